/- Decimals: plain law, and both functions by the machine. -/
import Derived.Test.YtdjdkkacbkfmeaaVMRen
import Derived.Test.YtdjdkkacbkfmeaaTT
import Derived.Test.YtdjdkkacbkfmeaaAxV1
import Derived.Test.YtdjdkkacbkfmeaaGen
set_option linter.unusedSimpArgs false
set_option linter.unusedVariables false
namespace Go.Proofs.Ytdjdkkacbkfmeaa
open Go.RowKit
def mkS (l : List UInt8) : ByteArray := ⟨l.toArray⟩
theorem mkS_toList (l : List UInt8) : (mkS l).data.toList = l := by simp [mkS]
theorem mkS_size (l : List UInt8) : (mkS l).size = l.length := by simp [mkS, ByteArray.size]
theorem mkS_of (s : ByteArray) : mkS s.data.toList = s := by
  apply ByteArray.ext
  simp [mkS]
theorem mkS_app (a b : List UInt8) : mkS a ++ mkS b = mkS (a ++ b) := by
  apply ByteArray.ext
  simp [mkS]
def dgC (d : Nat) : UInt8 := UInt8.ofNat (48 + d)
def decL (u : Nat) : List UInt8 := if u < 10 then [dgC u] else decL (u / 10) ++ [dgC (u % 10)]
termination_by u
theorem decL_lo {u : Nat} (h : u < 10) : decL u = [dgC u] := by rw [decL, if_pos h]
theorem decL_hi {u : Nat} (h : ¬ u < 10) : decL u = decL (u / 10) ++ [dgC (u % 10)] := by rw [decL, if_neg h]
theorem decL_pos (u : Nat) : 0 < (decL u).length := by
  rw [decL]; split <;> simp
theorem decL_len : ∀ (k u : Nat), u < 10 ^ (k + 1) → (decL u).length ≤ k + 1
  | 0, u, h => by rw [decL_lo (by simpa using h)]; simp
  | k + 1, u, h => by
    by_cases h1 : u < 10
    · rw [decL_lo h1]; simp
    · rw [decL_hi h1]
      have := decL_len k (u / 10) (by rw [Nat.div_lt_iff_lt_mul (by omega)]; rw [Nat.pow_succ] at h; exact h)
      simp; omega
def decS (n : Int) : List UInt8 := (if n < 0 then [45] else []) ++ decL n.natAbs
def decB (n : Int) : ByteArray := mkS (decS n)
theorem dgC_toNat {d : Nat} (h : d < 10) : (dgC d).toNat = 48 + d := by simp [dgC]; omega
theorem bD_dg {d : Nat} (h : d < 10) {z : Int} (hz : z = 48 + (d : Int)) : D.int .u8 z = bD (dgC d) := by
  rw [bD, dgC_toNat h, hz]; rfl
theorem decB_size (n : Int) (h : n.natAbs < 10 ^ 20) : (decB n).size ≤ 21 := by
  rw [decB, mkS_size, decS, List.length_append]
  have := decL_len 19 n.natAbs h
  split <;> simp <;> omega
theorem natAbs_bnd {n : Int} (h1 : -9223372036854775808 ≤ n) (h2 : n ≤ 9223372036854775807) : n.natAbs < 10 ^ 20 := by omega
set_option maxHeartbeats 1000000 in
theorem Decimal_v (n : Int) : PC Try.prog 62 [.d (.int .i64 n)] (.d (.str (decB n))) [] := by
  refine pc_intro ttOk (by kernel_rfl) Try.func62 rfl (by kernel_rfl) (by kernel_rfl) (by kernel_rfl) (fun hw => ?_)
  have hn : -9223372036854775808 ≤ n ∧ n ≤ 9223372036854775807 := hw.1
  by_cases hn0 : n < 0
  · (conv => whnf)
    refine ⟨n + 18446744073709551616, by simp only [IntKind.wrap, IntKind.bits, IntKind.signed, Bool.false_and, Bool.false_eq_true, if_false, Int.reducePow]; omega, ?_⟩
    (conv => whnf)
    (refine br_ (fun h1 => ?_) (fun h1 => ?_) <;> (repeat (refine stg_ ?_)))
    · refine ⟨(n.natAbs : Int), by simp only [IntKind.wrap, IntKind.bits, IntKind.signed, Bool.false_and, Bool.false_eq_true, if_false, Int.reducePow]; omega, ?_⟩
      (conv => whnf)
      refine LoopW.go (α := Nat × Nat × List UInt8) (fun p => [(0, .d (.int .i64 n)), (3, .pL 1 0 [] 0), (4, .d (.int .i64 (p.1 : Nat))), (5, .d (.int .u64 (p.2.1 : Nat)))]) (fun p => [.gone, .arr 1 (p.2.2.map bD) true]) (fun p => p.1 ≤ 20 ∧ p.2.2.length = 20 ∧ decL n.natAbs = decL p.2.1 ++ p.2.2.drop p.1 ∧ p.2.1 < 10 ^ (p.1 - 1) ∧ 1 < p.1 ∧ p.2.1 ≤ n.natAbs) (fun p => p.1) (20, n.natAbs, List.replicate 20 0) covT_ ⟨by omega, rfl, by rw [List.drop_eq_nil_of_le (by simp)]; simp, by simp only; omega, by show 1 < 20; decide, Nat.le_refl _⟩ ?_; rintro ⟨at', u, bs⟩ ⟨k1, k2, k3, k4, k5, k6⟩; dsimp only at k1 k2 k3 k4 k5 k6 ⊢
      (have hu : u ≤ 18446744073709551615 := by omega); (have ht : (u : Int).tmod 10 = ((u % 10 : Nat) : Int) := by rw [Int.tmod_eq_emod_of_nonneg (by omega)]; rfl); (have hd : (u : Int).tdiv 10 = ((u / 10 : Nat) : Int) := by rw [Int.tdiv_eq_ediv_of_nonneg (by omega)]; rfl); (obtain ⟨c0, hc0⟩ := at_lt' (xs := bs) (k := at' - 1) (by omega)); (have he : (bs.map bD)[at' - 1]? = some (bD c0) := by rw [List.getElem?_map, hc0]; rfl)
      (conv => whnf)
      (refine ArW.i64e ((at' - 1 : Nat) : Int) (by omega) (by omega) ?_; (conv => whnf); (refine stg_ ?_); rw [ht]; (refine stg_ ?_); refine ArW.u8e ((dgC (u % 10)).toNat : Int) (by rw [dgC_toNat (by omega)]; omega) (by have := (dgC (u % 10)).toNat_lt; omega) ?_; (conv => whnf); (repeat (refine stg_ ?_)); rw [hd])
      have hs := set_drop (l := bs) (k := at' - 1) (x := dgC (u % 10)) (by omega)
      rw [show at' - 1 + 1 = at' by omega] at hs
      have hm : (bs.set (at' - 1) (dgC (u % 10))).map bD = (bs.map bD).set (at' - 1) (bD (dgC (u % 10))) := List.map_set
      (refine br_ (fun h2 => ?_) (fun h2 => ?_) <;> (repeat (refine stg_ ?_)))
      · (conv => whnf)
        have hu0 : u < 10 := by omega
        obtain ⟨c1, hc1⟩ := at_lt' (xs := bs.set (at' - 1) (dgC (u % 10))) (k := at' - 1 - 1) (by simp only [List.length_set]; omega)
        have he1 : ((bs.map bD).set (at' - 1) (bD (dgC (u % 10))))[at' - 1 - 1]? = some (bD c1) := by rw [← hm, List.getElem?_map, hc1]; rfl
        (refine br_ (fun h3 => ?_) (fun h3 => ?_))
        · refine ArW.i64e ((at' - 1 - 1 : Nat) : Int) (by omega) (by omega) ?_
          (conv => whnf)
          (repeat (refine stg_ ?_))
          refine EqW.at (by simp only [List.length_set, List.length_map]; exact k2) ?_
          (conv => whnf)
          (repeat (refine stg_ ?_))
          refine StW.at (s := decB n) ?_ ?_
          · show List.take (20 - (at' - 1 - 1)) (List.drop (at' - 1 - 1) (((bs.map bD).set (at' - 1) (bD (dgC (u % 10)))).set (at' - 1 - 1) (bD 45))) = _
            rw [← hm, ← List.map_set, ← List.map_drop, set_drop (by simp only [List.length_set]; omega), show at' - 1 - 1 + 1 = at' - 1 by omega, hs, List.take_of_length_le (by simp; omega), decB, mkS_toList, decS, if_pos hn0, k3, decL_lo hu0, Nat.mod_eq_of_lt hu0]
            rfl
          · (conv => whnf)
            (refine RetOK.d rfl rfl ?_; conv => whnf)
        · exfalso; omega
      · (refine NextW.go (at' - 1, u / 10, bs.set (at' - 1) (dgC (u % 10))) (Weak.cov ⟨rfl, rfl, rfl, rfl, trivial⟩ ⟨trivial, by rw [hm]; rfl, trivial⟩ rfl) ⟨by simp only; omega, by simp only [List.length_set]; omega, ?_, ?_, ?_, by show u / 10 ≤ n.natAbs; omega⟩ (by show at' - 1 < at'; omega); (focus (show decL n.natAbs = decL (u / 10) ++ (bs.set (at' - 1) (dgC (u % 10))).drop (at' - 1); rw [hs, k3, decL_hi (by omega)]; simp)); (focus (show u / 10 < 10 ^ (at' - 1 - 1); rw [Nat.div_lt_iff_lt_mul (by omega), ← Nat.pow_succ]; rwa [show (at' - 1 - 1).succ = at' - 1 by omega])); (focus (show 1 < at' - 1; rcases Nat.lt_or_ge 1 (at' - 1) with h | h; (focus exact h); exfalso; (have e : at' - 1 = 1 := by omega); (rw [e] at k4); (have : u < 10 := by simpa using k4); omega)))
    · exfalso; omega
  · (conv => whnf)
    refine ⟨(n.natAbs : Int), by simp only [IntKind.wrap, IntKind.bits, IntKind.signed, Bool.false_and, Bool.false_eq_true, if_false, Int.reducePow]; omega, ?_⟩
    (conv => whnf)
    (refine br_ (fun h1 => ?_) (fun h1 => ?_))
    · exfalso; omega
    · refine LoopW.go (α := Nat × Nat × List UInt8) (fun p => [(0, .d (.int .i64 n)), (3, .pL 1 0 [] 0), (4, .d (.int .i64 (p.1 : Nat))), (5, .d (.int .u64 (p.2.1 : Nat)))]) (fun p => [.gone, .arr 1 (p.2.2.map bD) true]) (fun p => p.1 ≤ 20 ∧ p.2.2.length = 20 ∧ decL n.natAbs = decL p.2.1 ++ p.2.2.drop p.1 ∧ p.2.1 < 10 ^ (p.1 - 0) ∧ 0 < p.1 ∧ p.2.1 ≤ n.natAbs) (fun p => p.1) (20, n.natAbs, List.replicate 20 0) covT_ ⟨by omega, rfl, by rw [List.drop_eq_nil_of_le (by simp)]; simp, by simp only; omega, by show 0 < 20; decide, Nat.le_refl _⟩ ?_; rintro ⟨at', u, bs⟩ ⟨k1, k2, k3, k4, k5, k6⟩; dsimp only at k1 k2 k3 k4 k5 k6 ⊢
      (have hu : u ≤ 18446744073709551615 := by omega); (have ht : (u : Int).tmod 10 = ((u % 10 : Nat) : Int) := by rw [Int.tmod_eq_emod_of_nonneg (by omega)]; rfl); (have hd : (u : Int).tdiv 10 = ((u / 10 : Nat) : Int) := by rw [Int.tdiv_eq_ediv_of_nonneg (by omega)]; rfl); (obtain ⟨c0, hc0⟩ := at_lt' (xs := bs) (k := at' - 1) (by omega)); (have he : (bs.map bD)[at' - 1]? = some (bD c0) := by rw [List.getElem?_map, hc0]; rfl)
      (conv => whnf)
      (refine ArW.i64e ((at' - 1 : Nat) : Int) (by omega) (by omega) ?_; (conv => whnf); (refine stg_ ?_); rw [ht]; (refine stg_ ?_); refine ArW.u8e ((dgC (u % 10)).toNat : Int) (by rw [dgC_toNat (by omega)]; omega) (by have := (dgC (u % 10)).toNat_lt; omega) ?_; (conv => whnf); (repeat (refine stg_ ?_)); rw [hd])
      have hs := set_drop (l := bs) (k := at' - 1) (x := dgC (u % 10)) (by omega)
      rw [show at' - 1 + 1 = at' by omega] at hs
      have hm : (bs.set (at' - 1) (dgC (u % 10))).map bD = (bs.map bD).set (at' - 1) (bD (dgC (u % 10))) := List.map_set
      (refine br_ (fun h2 => ?_) (fun h2 => ?_) <;> (repeat (refine stg_ ?_)))
      · (conv => whnf)
        have hu0 : u < 10 := by omega
        (refine br_ (fun h3 => ?_) (fun h3 => ?_))
        · exfalso; omega
        · refine EqW.at (by simp only [List.length_set, List.length_map]; exact k2) ?_
          (conv => whnf)
          (repeat (refine stg_ ?_))
          refine StW.at (s := decB n) ?_ ?_
          · show List.take (20 - (at' - 1)) (List.drop (at' - 1) ((bs.map bD).set (at' - 1) (bD (dgC (u % 10))))) = _
            rw [← hm, ← List.map_drop, hs, List.take_of_length_le (by simp; omega), decB, mkS_toList, decS, if_neg hn0, k3, decL_lo hu0, Nat.mod_eq_of_lt hu0]
            rfl
          · (conv => whnf)
            (refine RetOK.d rfl rfl ?_; conv => whnf)
      · (refine NextW.go (at' - 1, u / 10, bs.set (at' - 1) (dgC (u % 10))) (Weak.cov ⟨rfl, rfl, rfl, rfl, trivial⟩ ⟨trivial, by rw [hm]; rfl, trivial⟩ rfl) ⟨by simp only; omega, by simp only [List.length_set]; omega, ?_, ?_, ?_, by show u / 10 ≤ n.natAbs; omega⟩ (by show at' - 1 < at'; omega); (focus (show decL n.natAbs = decL (u / 10) ++ (bs.set (at' - 1) (dgC (u % 10))).drop (at' - 1); rw [hs, k3, decL_hi (by omega)]; simp)); (focus (show u / 10 < 10 ^ (at' - 1 - 0); rw [Nat.div_lt_iff_lt_mul (by omega), ← Nat.pow_succ]; rwa [show (at' - 1 - 0).succ = at' - 0 by omega])); (focus (show 0 < at' - 1; rcases Nat.lt_or_ge 0 (at' - 1) with h | h; (focus exact h); exfalso; (have e : at' - 0 = 1 := by omega); (rw [e] at k4); (have : u < 10 := by simpa using k4); omega)))
theorem decS_pre {n k : Int} {L : List UInt8} (h : (if k = 0 then [] else decL k.natAbs) ++ L = (if n = 0 then [] else decL n.natAbs)) (hk : k ≠ 0) : (if k.tdiv 10 = 0 then [] else decL (k.tdiv 10).natAbs) ++ (dgC (k.natAbs % 10) :: L) = (if n = 0 then [] else decL n.natAbs) := by
  rw [← h, if_neg hk]
  have e : (k.tdiv 10).natAbs = k.natAbs / 10 := by rw [Int.natAbs_tdiv]; rfl
  by_cases h1 : k.natAbs < 10
  · rw [decL_lo h1, if_pos (by omega), Nat.mod_eq_of_lt h1]; rfl
  · rw [decL_hi h1, if_neg (by omega), e]; simp
set_option maxHeartbeats 1000000 in
theorem l01Dec_v (n : Int) : PC Try.prog 113 [.d (.int .i64 n)] (.d (.str (decB n))) [] := by
  refine pc_intro ttOk (by kernel_rfl) Try.func113 rfl (by kernel_rfl) (by kernel_rfl) (by kernel_rfl) (fun hw => ?_)
  have hn : -9223372036854775808 ≤ n ∧ n ≤ 9223372036854775807 := hw.1
  have hlen : (if n = 0 then [] else decL n.natAbs).length ≤ 20 := by
    split
    · simp
    · exact decL_len 19 _ (by omega)
  (conv => whnf)
  refine LoopW.go (α := Int × List UInt8) (fun p => [(0, .d (.int .i64 n)), (3, .own 1 0 p.2.length), (4, .d (.int .i64 p.1))]) (fun p => [.gone, .arr 1 (p.2.map bD) true]) (fun p => (-9223372036854775808 ≤ p.1 ∧ p.1 ≤ 9223372036854775807) ∧ (if p.1 = 0 then [] else decL p.1.natAbs) ++ p.2 = (if n = 0 then [] else decL n.natAbs)) (fun p => p.1.natAbs) (n, []) covT_ ⟨hn, by simp⟩ ?_
  rintro ⟨k, L⟩ ⟨k1, k2⟩
  dsimp only at k1 k2 ⊢
  have k3 := congrArg List.length k2
  rw [List.length_append] at k3
  have hLm : (L.map bD).length = L.length := List.length_map _
  (conv => whnf)
  (refine br_ (fun h1 => ?_) (fun h1 => ?_) <;> (repeat (refine stg_ ?_)))
  · have e1 : (k.tmod 10).natAbs = k.natAbs % 10 := by rw [Int.natAbs_tmod]; rfl
    have e2 : (k.tdiv 10).natAbs = k.natAbs / 10 := by rw [Int.natAbs_tdiv]; rfl
    have hc := (dgC (k.natAbs % 10)).toNat_lt
    have hc2 := dgC_toNat (d := k.natAbs % 10) (by omega)
    have fin : ∀ {e : Env} {h : List Blk}, Weak e h [(0, .d (.int .i64 n)), (3, .own 1 0 (1 + (L.map bD).length)), (4, .d (.int .i64 (k.tdiv 10)))] [.gone, .arr 1 (bD (dgC (k.natAbs % 10)) :: L.map bD) true] → NextW (α := Int × List UInt8) (fun p => [(0, .d (.int .i64 n)), (3, .own 1 0 p.2.length), (4, .d (.int .i64 p.1))]) (fun p => [.gone, .arr 1 (p.2.map bD) true]) (fun p => (-9223372036854775808 ≤ p.1 ∧ p.1 ≤ 9223372036854775807) ∧ (if p.1 = 0 then [] else decL p.1.natAbs) ++ p.2 = (if n = 0 then [] else decL n.natAbs)) (fun p => p.1.natAbs) (k, L) e h := by
      intro e h H
      refine NextW.go (k.tdiv 10, dgC (k.natAbs % 10) :: L) ?_ ⟨by show _ ∧ _; omega, decS_pre k2 h1⟩ (by show (k.tdiv 10).natAbs < k.natAbs; omega)
      rw [hLm, Nat.add_comm] at H
      exact H
    (refine br_ (fun h2 => ?_) (fun h2 => ?_))
    · refine ArW.i64 (by omega) ?_
      (conv => whnf)
      (refine stg_ ?_)
      refine ArW.u8e ((dgC (k.natAbs % 10)).toNat : Int) (by omega) (by omega) ?_
      (conv => whnf)
      (repeat (refine stg_ ?_))
      refine fin ?_
      (refine Weak.trans (Weak.swap 1 2 ?_) (Weak.cov ?_ ?_ ?_); (focus rfl); (focus (repeat' (first | exact trivial | with_reducible rfl | (refine ⟨?_, ?_⟩) | rfl))); (focus (repeat' (first | exact trivial | with_reducible rfl | (refine ⟨?_, ?_⟩) | rfl))); (focus rfl))
    · (refine stg_ ?_)
      refine ArW.u8e ((dgC (k.natAbs % 10)).toNat : Int) (by omega) (by omega) ?_
      (conv => whnf)
      (repeat (refine stg_ ?_))
      refine fin ?_
      (refine Weak.trans (Weak.swap 1 2 ?_) (Weak.cov ?_ ?_ ?_); (focus rfl); (focus (repeat' (first | exact trivial | with_reducible rfl | (refine ⟨?_, ?_⟩) | rfl))); (focus (repeat' (first | exact trivial | with_reducible rfl | (refine ⟨?_, ?_⟩) | rfl))); (focus rfl))
  · rw [if_pos h1] at k2
    have hB : decB n = mkS ((if n < 0 then [45] else []) ++ decL n.natAbs) := rfl
    simp only [List.nil_append] at k2
    (repeat' (first | (refine stg_ ?_) | fail | (refine br_ (fun hbr => ?_) (fun hbr => ?_))))
    · (refine RetOK.d rfl rfl ?_; conv => whnf)
      have hz : n = 0 := by
        rcases Int.lt_trichotomy n 0 with h | h | h
        · rw [if_neg (by omega)] at k2
          have := decL_pos n.natAbs
          rw [← k2] at this; omega
        · exact h
        · rw [if_neg (by omega)] at k2
          have := decL_pos n.natAbs
          rw [← k2] at this; omega
      subst hz
      rw [hB, if_neg (by omega), Int.natAbs_zero, decL_lo (by omega)]; rfl
    · refine StW.at (s := mkS L) (by rw [List.drop_zero, List.take_of_length_le (by omega), mkS_toList]) ?_
      (conv => whnf)
      refine CatW.at (by rw [mkS_size]; show 1 + L.length ≤ 9223372036854775807; omega) ?_
      (conv => whnf)
      (refine RetOK.d rfl rfl ?_; conv => whnf)
      rw [if_neg (by omega)] at k2
      rw [hB, if_pos hbr, ← k2]
      exact congrArg D.str (mkS_app [45] L).symm
    · refine StW.at (s := mkS L) (by rw [List.drop_zero, List.take_of_length_le (by omega), mkS_toList]) ?_
      (conv => whnf)
      (refine RetOK.d rfl rfl ?_; conv => whnf)
      rw [if_neg (by intro h; subst h; simp at k2; subst k2; simp at *)] at k2
      rw [hB, if_neg (by omega), ← k2]; rfl
end Go.Proofs.Ytdjdkkacbkfmeaa
