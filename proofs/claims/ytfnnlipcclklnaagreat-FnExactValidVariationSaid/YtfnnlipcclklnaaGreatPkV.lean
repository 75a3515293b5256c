/- Peaks and factors of masters: plain law and both functions by the machine. -/
import Derived.Test.YtfnnlipcclklnaaGreatAxN
import Derived.Test.YtfnnlipcclklnaaGreatLV
set_option linter.unusedSimpArgs false
set_option linter.unusedVariables false
namespace Go.Proofs.YtfnnlipcclklnaaGreat
open Go.RowKit
def pkB (p : TPeak) : Bool := nrm p.fStart && (nrm p.fEnd && (inB p.fTop p.fStart p.fEnd && (decide (0 ≤ p.fStart) || (decide (p.fEnd ≤ 0) || decide (p.fTop = 0)))))
theorem pk_facts {p : TPeak} (h : pkB p = true) : -16384 ≤ p.fStart ∧ p.fStart ≤ p.fTop ∧ p.fTop ≤ p.fEnd ∧ p.fEnd ≤ 16384 := by
  simp only [pkB, nrm, inB, Bool.and_eq_true, decide_eq_true_eq] at h
  omega
def pkF (p : TPeak) (n : Int) : Int :=
  if p.fTop = 0 ∨ n = p.fTop then 16384 else if n ≤ p.fStart ∨ p.fEnd ≤ n then 0
  else if n < p.fTop then divR ((n - p.fStart) * 16384) (p.fTop - p.fStart) else divR ((p.fEnd - n) * 16384) (p.fEnd - p.fTop)
theorem pkF_bnd {p : TPeak} (h : pkB p = true) (n : Int) : 0 ≤ pkF p n ∧ pkF p n ≤ 16384 := by
  obtain ⟨h1, h2, h3, h4⟩ := pk_facts h
  unfold pkF
  split
  · omega
  · split
    · omega
    · split
      · exact ⟨le_divR (by omega) (by omega), divR_le (by omega) (by omega)⟩
      · exact ⟨le_divR (by omega) (by omega), divR_le (by omega) (by omega)⟩
theorem ValidPeak_v (p : TPeak) : PC Tryz.prog 84 [.d p.D] (.d (.bool (pkB p))) [] := by
  refine pc_intro ttOk (by kernel_rfl) Tryz.func84 rfl (by kernel_rfl) (by kernel_rfl) (by kernel_rfl) (fun hw => ?_)
  (conv => whnf)
  (repeat' (first | (refine stg_ ?_) | (refine cl_ (isNormal_v _) ?_) | (refine br_ (fun hbr => ?_) (fun hbr => ?_))))
  all_goals ((refine RetOK.d rfl rfl ?_; conv => whnf); (try simp_all [pkB, inB]); (try (rw [Bool.eq_iff_iff]; simp)); (try omega))
theorem l30Peak_v (p : TPeak) : PC Tryz.prog 161 [.d p.D] (.d (.bool (pkB p))) [] := by
  refine pc_intro ttOk (by kernel_rfl) Tryz.func161 rfl (by kernel_rfl) (by kernel_rfl) (by kernel_rfl) (fun hw => ?_)
  (conv => whnf)
  (repeat' (first | (refine stg_ ?_) | (refine cl_ (l29Normal_v _) ?_) | (refine cl_ (l00In_v _ _ _) ?_) | (refine br_ (fun hbr => ?_) (fun hbr => ?_))))
  all_goals ((refine RetOK.d rfl rfl ?_; conv => whnf); (try simp_all [pkB]); (try (rw [Bool.eq_iff_iff]; simp)); (try omega))
theorem peakFactor_v (p : TPeak) (n : Int) (hp : pkB p = true) (hn : nrm n = true) : PC Tryz.prog 181 [.d p.D, .d (.int .i64 n)] (.d (.int .i64 (pkF p n))) [] := by
  refine pc_intro ttOk (by kernel_rfl) Tryz.func181 rfl (by kernel_rfl) (by kernel_rfl) (by kernel_rfl) (fun hw => ?_)
  obtain ⟨h1, h2, h3, h4⟩ := pk_facts hp
  simp only [nrm, Bool.and_eq_true, decide_eq_true_eq] at hn
  (conv => whnf)
  (repeat' (first | (refine stg_ ?_) | (refine cl_ (DivRound_v _ _) ?_) | (refine br_ (fun hbr => ?_) (fun hbr => ?_))))
  all_goals ((refine RetOK.d rfl rfl ?_; conv => whnf); rw [pkF]; first | (rw [if_pos (by omega)]; done) | (rw [if_neg (by omega), if_pos (by omega)]; done) | (rw [if_neg (by omega), if_neg (by omega), if_pos (by omega)]; done) | (rw [if_neg (by omega), if_neg (by omega), if_neg (by omega)]; done))
theorem l30Factor_v (p : TPeak) (n : Int) (hp : pkB p = true) (hn : nrm n = true) : PC Tryz.prog 171 [.d p.D, .d (.int .i64 n)] (.d (.int .i64 (pkF p n))) [] := by
  refine pc_intro ttOk (by kernel_rfl) Tryz.func171 rfl (by kernel_rfl) (by kernel_rfl) (by kernel_rfl) (fun hw => ?_)
  obtain ⟨h1, h2, h3, h4⟩ := pk_facts hp
  simp only [nrm, Bool.and_eq_true, decide_eq_true_eq] at hn
  (conv => whnf)
  (repeat' (first | (refine stg_ ?_) | (refine cl_ (specDivRound_v _ _) ?_) | (refine br_ (fun hbr => ?_) (fun hbr => ?_))))
  all_goals ((refine RetOK.d rfl rfl ?_; conv => whnf); rw [pkF]; first | (rw [if_pos (by omega)]; done) | (rw [if_neg (by omega), if_pos (by omega)]; done) | (rw [if_neg (by omega), if_neg (by omega), if_pos (by omega)]; done) | (rw [if_neg (by omega), if_neg (by omega), if_neg (by omega)]; done))
/-! factors of masters -/
def pksB (xs : List TPeak) : Bool := decide (xs.length ≤ 3) && xs.all pkB
def nmsB (ns : List Int) (k : Nat) : Bool := decide (ns.length = k) && ns.all nrm
def mfK (xs : List TPeak) (ns : List Int) : Nat → Int
  | 0 => 16384
  | k + 1 => match xs[k]?, ns[k]? with
    | some p, some n => divR (mfK xs ns k * pkF p n) 16384
    | _, _ => mfK xs ns k
theorem mfK_at {xs : List TPeak} {ns : List Int} {k : Nat} {p : TPeak} {n : Int} (h1 : xs[k]? = some p) (h2 : ns[k]? = some n) : mfK xs ns (k + 1) = divR (mfK xs ns k * pkF p n) 16384 := by
  rw [mfK, h1, h2]
theorem mfK_bnd {xs : List TPeak} {ns : List Int} (h : xs.all pkB = true) : ∀ k, 0 ≤ mfK xs ns k ∧ mfK xs ns k ≤ 16384
  | 0 => by simp [mfK]
  | k + 1 => by
    have ih := mfK_bnd (ns := ns) h k
    rw [mfK]
    split
    · rename_i p n h1 h2
      have hb := pkF_bnd (List.all_eq_true.1 h p (List.mem_of_getElem? h1)) n
      have e1 : 0 ≤ mfK xs ns k * pkF p n := Int.mul_nonneg ih.1 hb.1
      have e2 : mfK xs ns k * pkF p n ≤ 16384 * pkF p n := Int.mul_le_mul_of_nonneg_right ih.2 hb.1
      exact ⟨le_divR (by omega) (by omega), divR_le (by omega) (by omega)⟩
    · exact ih
def mfV (xs : List TPeak) (ns : List Int) : Int := if pksB xs = true then (if nmsB ns xs.length = true then mfK xs ns xs.length else 0) else 0
def mfC (xs : List TPeak) (ns : List Int) : Int := if pksB xs = true then (if nmsB ns xs.length = true then 0 else 2) else 1
theorem nms_at {ns : List Int} {k j : Nat} {n : Int} (h : nmsB ns k = true) (hn : ns[j]? = some n) : nrm n = true := by
  simp only [nmsB, Bool.and_eq_true] at h
  exact List.all_eq_true.1 h.2 n (List.mem_of_getElem? hn)
theorem nms_len {ns : List Int} {k : Nat} (h : nmsB ns k = true) : ns.length = k := by
  simp only [nmsB, Bool.and_eq_true, decide_eq_true_eq] at h
  exact h.1
set_option maxHeartbeats 1000000 in
theorem ixPeak_v (xs : List TPeak) (f : Nat) (p : TPeak → Bool) (hf : ∀ x : TPeak, PC Tryz.prog f [.d x.D] (.d (.bool (p x))) []) :
    PC Tryz.prog 149 [.d (.lst (xs.map TPeak.D)), .fn (.func f) []] (.d (.int .i64 (fdx p xs 0))) [] := by
  refine pc_intro ttOk (by kernel_rfl) Tryz.func149 rfl (by kernel_rfl) (by kernel_rfl) (by kernel_rfl) (fun hw => ?_)
  have hL : (xs.map TPeak.D).length = xs.length := List.length_map _
  have hm : (xs.map TPeak.D).length ≤ 9223372036854775807 := hw.1.1
  (conv => whnf)
  refine LoopW.go (α := Nat) (fun k => [(0, .d (.lst (xs.map TPeak.D))), (1, .fn (.func f) []), (7, .d (.int .i64 (xs.map TPeak.D).length)), (8, .d (.int .i64 k))]) (fun k => [.gone]) (fun k => k ≤ xs.length ∧ fdx p xs 0 = fdx p (xs.drop k) k) (fun k => xs.length - k) 0 covT_ ?_ (fun k hk => ?_)
  · exact ⟨by omega, rfl⟩
  obtain ⟨hk1, hk2⟩ := hk
  (conv => whnf)
  (refine br_ (fun h2 => ?_) (fun h2 => ?_) <;> (repeat (refine stg_ ?_)))
  · obtain ⟨x, hx⟩ := at_lt' (xs := xs) (k := k) (by omega)
    rw [fdx_at hx] at hk2
    (repeat (refine stg_ ?_))
    (refine cla_ (hf x) ?_)
    (refine br_ (fun h3 => ?_) (fun h3 => ?_) <;> (repeat (refine stg_ ?_)))
    · (refine RetOK.d rfl rfl ?_; conv => whnf)
      rw [hk2, if_pos h3]
    · (repeat (refine stg_ ?_))
      exact NextW.go (k + 1) covT_ ⟨by omega, by rw [hk2, h3]; rfl⟩ (by omega)
  · (refine RetOK.d rfl rfl ?_; conv => whnf)
    rw [hk2, fdx_end (by omega)]
theorem ctPeak_v (xs : List TPeak) (f : Nat) (p : TPeak → Bool) (hf : ∀ x : TPeak, PC Tryz.prog f [.d x.D] (.d (.bool (p x))) []) :
    PC Tryz.prog 82 [.d (.lst (xs.map TPeak.D)), .fn (.func f) []] (.d (.bool (xs.any p))) [] := by
  refine pc_intro ttOk (by kernel_rfl) Tryz.func82 rfl (by kernel_rfl) (by kernel_rfl) (by kernel_rfl) (fun hw => ?_)
  (conv => whnf)
  (refine cla_ (ixPeak_v xs f p hf) ?_)
  (refine RetOK.d rfl rfl ?_; conv => whnf)
  rw [← fdx_any p xs 0]

set_option maxHeartbeats 1000000 in
theorem ixint64_v (xs : List Int) (f : Nat) (p : Int → Bool) (hf : ∀ x : Int, PC Tryz.prog f [.d (.int .i64 x)] (.d (.bool (p x))) []) :
    PC Tryz.prog 177 [.d (.lst (xs.map (D.int .i64))), .fn (.func f) []] (.d (.int .i64 (fdx p xs 0))) [] := by
  refine pc_intro ttOk (by kernel_rfl) Tryz.func177 rfl (by kernel_rfl) (by kernel_rfl) (by kernel_rfl) (fun hw => ?_)
  have hL : (xs.map (D.int .i64)).length = xs.length := List.length_map _
  have hm : (xs.map (D.int .i64)).length ≤ 9223372036854775807 := hw.1.1
  (conv => whnf)
  refine LoopW.go (α := Nat) (fun k => [(0, .d (.lst (xs.map (D.int .i64)))), (1, .fn (.func f) []), (7, .d (.int .i64 (xs.map (D.int .i64)).length)), (8, .d (.int .i64 k))]) (fun k => [.gone]) (fun k => k ≤ xs.length ∧ fdx p xs 0 = fdx p (xs.drop k) k) (fun k => xs.length - k) 0 covT_ ?_ (fun k hk => ?_)
  · exact ⟨by omega, rfl⟩
  obtain ⟨hk1, hk2⟩ := hk
  (conv => whnf)
  (refine br_ (fun h2 => ?_) (fun h2 => ?_) <;> (repeat (refine stg_ ?_)))
  · obtain ⟨x, hx⟩ := at_lt' (xs := xs) (k := k) (by omega)
    rw [fdx_at hx] at hk2
    (repeat (refine stg_ ?_))
    (refine cla_ (hf x) ?_)
    (refine br_ (fun h3 => ?_) (fun h3 => ?_) <;> (repeat (refine stg_ ?_)))
    · (refine RetOK.d rfl rfl ?_; conv => whnf)
      rw [hk2, if_pos h3]
    · (repeat (refine stg_ ?_))
      exact NextW.go (k + 1) covT_ ⟨by omega, by rw [hk2, h3]; rfl⟩ (by omega)
  · (refine RetOK.d rfl rfl ?_; conv => whnf)
    rw [hk2, fdx_end (by omega)]
theorem ctint64_v (xs : List Int) (f : Nat) (p : Int → Bool) (hf : ∀ x : Int, PC Tryz.prog f [.d (.int .i64 x)] (.d (.bool (p x))) []) :
    PC Tryz.prog 115 [.d (.lst (xs.map (D.int .i64))), .fn (.func f) []] (.d (.bool (xs.any p))) [] := by
  refine pc_intro ttOk (by kernel_rfl) Tryz.func115 rfl (by kernel_rfl) (by kernel_rfl) (by kernel_rfl) (fun hw => ?_)
  (conv => whnf)
  (refine cla_ (ixint64_v xs f p hf) ?_)
  (refine RetOK.d rfl rfl ?_; conv => whnf)
  rw [← fdx_any p xs 0]

theorem nmNeg_v (n : Int) : PC Tryz.prog 116 [.d (.int .i64 n)] (.d (.bool (!nrm n))) [] := by
  refine pc_intro ttOk (by kernel_rfl) Tryz.func116 rfl (by kernel_rfl) (by kernel_rfl) (by kernel_rfl) (fun hw => ?_)
  (conv => whnf)
  (repeat' (first | (refine stg_ ?_) | (refine cl_ (isNormal_v n) ?_) | (refine br_ (fun hbr => ?_) (fun hbr => ?_))))
  all_goals ((refine RetOK.d rfl rfl ?_; conv => whnf); try rfl)
theorem areNormals_v (ns : List Int) (k : Nat) : PC Tryz.prog 57 [.d (.lst (ns.map (D.int .i64))), .d (.int .i64 k)] (.d (.bool (nmsB ns k))) [] := by
  refine pc_intro ttOk (by kernel_rfl) Tryz.func57 rfl (by kernel_rfl) (by kernel_rfl) (by kernel_rfl) (fun hw => ?_)
  have hL : (ns.map (D.int .i64)).length = ns.length := List.length_map _
  (conv => whnf)
  (repeat' (first | (refine stg_ ?_) | (refine cla_ (ctint64_v ns _ (fun n => !nrm n) nmNeg_v) ?_) | (refine br_ (fun hbr => ?_) (fun hbr => ?_))))
  all_goals ((refine RetOK.d rfl rfl ?_; conv => whnf); simp only [nmsB, List.all_eq_not_any_not]; first | (rw [decide_eq_true (by omega)]; simp; done) | (rw [decide_eq_false (by omega)]; simp; done))
theorem l30Normals_v (ns : List Int) (k : Nat) : PC Tryz.prog 55 [.d (.lst (ns.map (D.int .i64))), .d (.int .i64 k)] (.d (.bool (nmsB ns k))) [] := by
  refine pc_intro ttOk (by kernel_rfl) Tryz.func55 rfl (by kernel_rfl) (by kernel_rfl) (by kernel_rfl) (fun hw => ?_)
  have hL : (ns.map (D.int .i64)).length = ns.length := List.length_map _
  have hm : (ns.map (D.int .i64)).length ≤ 9223372036854775807 := hw.1.1
  (conv => whnf)
  refine LoopW.go (α := Nat) (fun i => [(0, .d (.lst (ns.map (D.int .i64)))), (1, .d (.int .i64 k)), (5, .d (.int .i64 i))]) (fun _ => [.gone]) (fun i => i ≤ ns.length ∧ ns.all nrm = (ns.drop i).all nrm) (fun i => ns.length - i) 0 covT_ ?_ (fun i hi => ?_)
  · exact ⟨by omega, rfl⟩
  obtain ⟨hk1, hk2⟩ := hi
  (conv => whnf)
  (refine br_ (fun h2 => ?_) (fun h2 => ?_) <;> (repeat (refine stg_ ?_)))
  · obtain ⟨x, hx⟩ := at_lt' (xs := ns) (k := i) (by omega)
    rw [drop_at hx, List.all_cons] at hk2
    (repeat' (first | (refine stg_ ?_) | (refine cl_ (l29Normal_v _) ?_) | (refine br_ (fun hbr => ?_) (fun hbr => ?_))))
    all_goals first | ((refine RetOK.d rfl rfl ?_; conv => whnf); simp_all [nmsB]; done) | (exact NextW.go (i + 1) covT_ ⟨by omega, by simp_all⟩ (by omega))
  · (refine RetOK.d rfl rfl ?_; conv => whnf)
    rw [nmsB, hk2, List.drop_eq_nil_of_le (by omega), List.all_nil, Bool.and_true]
    congr 1
    rw [Bool.eq_iff_iff]; simp; try omega
theorem l30Peaks_v (xs : List TPeak) : PC Tryz.prog 91 [.d (.lst (xs.map TPeak.D))] (.d (.bool (pksB xs))) [] := by
  refine pc_intro ttOk (by kernel_rfl) Tryz.func91 rfl (by kernel_rfl) (by kernel_rfl) (by kernel_rfl) (fun hw => ?_)
  have hL : (xs.map TPeak.D).length = xs.length := List.length_map _
  have hm : (xs.map TPeak.D).length ≤ 9223372036854775807 := hw.1.1
  (conv => whnf)
  refine LoopW.go (α := Nat) (fun k => [(0, .d (.lst (xs.map TPeak.D))), (3, .d (.int .i64 k))]) (fun k => [.gone]) (fun k => k ≤ xs.length ∧ xs.all pkB = (xs.drop k).all pkB) (fun k => xs.length - k) 0 covT_ ?_ (fun k hk => ?_)
  · exact ⟨by omega, rfl⟩
  obtain ⟨hk1, hk2⟩ := hk
  (conv => whnf)
  (refine br_ (fun h2 => ?_) (fun h2 => ?_) <;> (repeat (refine stg_ ?_)))
  · obtain ⟨x, hx⟩ := at_lt' (xs := xs) (k := k) (by omega)
    rw [drop_at hx, List.all_cons] at hk2
    (repeat' (first | (refine stg_ ?_) | (refine cla_ (l30Peak_v x) ?_) | (refine br_ (fun hbr => ?_) (fun hbr => ?_))))
    all_goals first | ((refine RetOK.d rfl rfl ?_; conv => whnf); simp_all [pksB]; done) | exact NextW.go (k + 1) covT_ ⟨by omega, by simp_all⟩ (by omega)
  · (refine RetOK.d rfl rfl ?_; conv => whnf)
    rw [pksB, hk2, List.drop_eq_nil_of_le (by omega), List.all_nil, Bool.and_true]
    congr 1
    rw [Bool.eq_iff_iff]; simp; try omega
end Go.Proofs.YtfnnlipcclklnaaGreat
