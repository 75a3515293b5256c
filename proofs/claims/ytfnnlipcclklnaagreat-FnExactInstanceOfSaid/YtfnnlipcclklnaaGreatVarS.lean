/- merged: several parts in one text. Leans on no more than they do. -/
import Derived.Test.YtfnnlipcclklnaaGreatOtV
import Derived.Test.YtfnnlipcclklnaaGreatLV
import Derived.Test.YtfnnlipcclklnaaGreatLVBase
set_option linter.unusedSimpArgs false
set_option linter.unusedVariables false
namespace Go.Proofs.YtfnnlipcclklnaaGreat
open Go.RowKit
def pkB (p : TPeak) : Bool := nrm p.fStart && (nrm p.fEnd && (inB p.fTop p.fStart p.fEnd && (decide (0 ≤ p.fStart) || (decide (p.fEnd ≤ 0) || decide (p.fTop = 0)))))
theorem pk_facts {p : TPeak} (h : pkB p = true) : -16384 ≤ p.fStart ∧ p.fStart ≤ p.fTop ∧ p.fTop ≤ p.fEnd ∧ p.fEnd ≤ 16384 := by
  simp only [pkB, nrm, inB, Bool.and_eq_true, decide_eq_true_eq] at h
  omega
def pkF (p : TPeak) (n : Int) : Int :=
  if p.fTop = 0 ∨ n = p.fTop then 16384 else if n ≤ p.fStart ∨ p.fEnd ≤ n then 0
  else if n < p.fTop then divR ((n - p.fStart) * 16384) (p.fTop - p.fStart) else divR ((p.fEnd - n) * 16384) (p.fEnd - p.fTop)
theorem pkF_bnd {p : TPeak} (h : pkB p = true) (n : Int) : 0 ≤ pkF p n ∧ pkF p n ≤ 16384 := by
  obtain ⟨h1, h2, h3, h4⟩ := pk_facts h
  unfold pkF
  split
  · omega
  · split
    · omega
    · split
      · exact ⟨le_divR (by omega) (by omega), divR_le (by omega) (by omega)⟩
      · exact ⟨le_divR (by omega) (by omega), divR_le (by omega) (by omega)⟩
theorem ValidPeak_v (p : TPeak) : PC Tryz.prog 84 [.d p.D] (.d (.bool (pkB p))) [] := by
  refine pc_intro ttOk (by kernel_rfl) Tryz.func84 rfl (by kernel_rfl) (by kernel_rfl) (by kernel_rfl) (fun hw => ?_)
  (conv => whnf)
  (repeat' (first | (refine stg_ ?_) | (refine cl_ (isNormal_v _) ?_) | (refine br_ (fun hbr => ?_) (fun hbr => ?_))))
  all_goals ((refine RetOK.d rfl rfl ?_; conv => whnf); (try simp_all [pkB, inB]); (try (rw [Bool.eq_iff_iff]; simp)); (try omega))
theorem l30Peak_v (p : TPeak) : PC Tryz.prog 161 [.d p.D] (.d (.bool (pkB p))) [] := by
  refine pc_intro ttOk (by kernel_rfl) Tryz.func161 rfl (by kernel_rfl) (by kernel_rfl) (by kernel_rfl) (fun hw => ?_)
  (conv => whnf)
  (repeat' (first | (refine stg_ ?_) | (refine cl_ (l29Normal_v _) ?_) | (refine cl_ (l00In_v _ _ _) ?_) | (refine br_ (fun hbr => ?_) (fun hbr => ?_))))
  all_goals ((refine RetOK.d rfl rfl ?_; conv => whnf); (try simp_all [pkB]); (try (rw [Bool.eq_iff_iff]; simp)); (try omega))
theorem peakFactor_v (p : TPeak) (n : Int) (hp : pkB p = true) (hn : nrm n = true) : PC Tryz.prog 181 [.d p.D, .d (.int .i64 n)] (.d (.int .i64 (pkF p n))) [] := by
  refine pc_intro ttOk (by kernel_rfl) Tryz.func181 rfl (by kernel_rfl) (by kernel_rfl) (by kernel_rfl) (fun hw => ?_)
  obtain ⟨h1, h2, h3, h4⟩ := pk_facts hp
  simp only [nrm, Bool.and_eq_true, decide_eq_true_eq] at hn
  (conv => whnf)
  (repeat' (first | (refine stg_ ?_) | (refine cl_ (DivRound_v _ _) ?_) | (refine br_ (fun hbr => ?_) (fun hbr => ?_))))
  all_goals ((refine RetOK.d rfl rfl ?_; conv => whnf); rw [pkF]; first | (rw [if_pos (by omega)]; done) | (rw [if_neg (by omega), if_pos (by omega)]; done) | (rw [if_neg (by omega), if_neg (by omega), if_pos (by omega)]; done) | (rw [if_neg (by omega), if_neg (by omega), if_neg (by omega)]; done))
theorem l30Factor_v (p : TPeak) (n : Int) (hp : pkB p = true) (hn : nrm n = true) : PC Tryz.prog 171 [.d p.D, .d (.int .i64 n)] (.d (.int .i64 (pkF p n))) [] := by
  refine pc_intro ttOk (by kernel_rfl) Tryz.func171 rfl (by kernel_rfl) (by kernel_rfl) (by kernel_rfl) (fun hw => ?_)
  obtain ⟨h1, h2, h3, h4⟩ := pk_facts hp
  simp only [nrm, Bool.and_eq_true, decide_eq_true_eq] at hn
  (conv => whnf)
  (repeat' (first | (refine stg_ ?_) | (refine cl_ (specDivRound_v _ _) ?_) | (refine br_ (fun hbr => ?_) (fun hbr => ?_))))
  all_goals ((refine RetOK.d rfl rfl ?_; conv => whnf); rw [pkF]; first | (rw [if_pos (by omega)]; done) | (rw [if_neg (by omega), if_pos (by omega)]; done) | (rw [if_neg (by omega), if_neg (by omega), if_pos (by omega)]; done) | (rw [if_neg (by omega), if_neg (by omega), if_neg (by omega)]; done))
def pksB (xs : List TPeak) : Bool := decide (xs.length ≤ 3) && xs.all pkB
def nmsB (ns : List Int) (k : Nat) : Bool := decide (ns.length = k) && ns.all nrm
def mfK (xs : List TPeak) (ns : List Int) : Nat → Int
  | 0 => 16384
  | k + 1 => match xs[k]?, ns[k]? with
    | some p, some n => divR (mfK xs ns k * pkF p n) 16384
    | _, _ => mfK xs ns k
theorem mfK_at {xs : List TPeak} {ns : List Int} {k : Nat} {p : TPeak} {n : Int} (h1 : xs[k]? = some p) (h2 : ns[k]? = some n) : mfK xs ns (k + 1) = divR (mfK xs ns k * pkF p n) 16384 := by
  rw [mfK, h1, h2]
theorem mfK_bnd {xs : List TPeak} {ns : List Int} (h : xs.all pkB = true) : ∀ k, 0 ≤ mfK xs ns k ∧ mfK xs ns k ≤ 16384
  | 0 => by simp [mfK]
  | k + 1 => by
    have ih := mfK_bnd (ns := ns) h k
    rw [mfK]
    split
    · rename_i p n h1 h2
      have hb := pkF_bnd (List.all_eq_true.1 h p (List.mem_of_getElem? h1)) n
      have e1 : 0 ≤ mfK xs ns k * pkF p n := Int.mul_nonneg ih.1 hb.1
      have e2 : mfK xs ns k * pkF p n ≤ 16384 * pkF p n := Int.mul_le_mul_of_nonneg_right ih.2 hb.1
      exact ⟨le_divR (by omega) (by omega), divR_le (by omega) (by omega)⟩
    · exact ih
theorem nms_at {ns : List Int} {k j : Nat} {n : Int} (h : nmsB ns k = true) (hn : ns[j]? = some n) : nrm n = true := by
  simp only [nmsB, Bool.and_eq_true] at h
  exact List.all_eq_true.1 h.2 n (List.mem_of_getElem? hn)
theorem nms_len {ns : List Int} {k : Nat} (h : nmsB ns k = true) : ns.length = k := by
  simp only [nmsB, Bool.and_eq_true, decide_eq_true_eq] at h
  exact h.1
set_option maxHeartbeats 1000000 in
theorem ixPeak_v (xs : List TPeak) (f : Nat) (p : TPeak → Bool) (hf : ∀ x : TPeak, PC Tryz.prog f [.d x.D] (.d (.bool (p x))) []) :
    PC Tryz.prog 149 [.d (.lst (xs.map TPeak.D)), .fn (.func f) []] (.d (.int .i64 (fdx p xs 0))) [] := by
  refine pc_intro ttOk (by kernel_rfl) Tryz.func149 rfl (by kernel_rfl) (by kernel_rfl) (by kernel_rfl) (fun hw => ?_)
  have hL : (xs.map TPeak.D).length = xs.length := List.length_map _
  have hm : (xs.map TPeak.D).length ≤ 9223372036854775807 := hw.1.1
  (conv => whnf)
  refine LoopW.go (α := Nat) (fun k => [(0, .d (.lst (xs.map TPeak.D))), (1, .fn (.func f) []), (7, .d (.int .i64 (xs.map TPeak.D).length)), (8, .d (.int .i64 k))]) (fun k => [.gone]) (fun k => k ≤ xs.length ∧ fdx p xs 0 = fdx p (xs.drop k) k) (fun k => xs.length - k) 0 covT_ ?_ (fun k hk => ?_)
  · exact ⟨by omega, rfl⟩
  obtain ⟨hk1, hk2⟩ := hk
  (conv => whnf)
  (refine br_ (fun h2 => ?_) (fun h2 => ?_) <;> (repeat (refine stg_ ?_)))
  · obtain ⟨x, hx⟩ := at_lt' (xs := xs) (k := k) (by omega)
    rw [fdx_at hx] at hk2
    (repeat (refine stg_ ?_))
    (refine cla_ (hf x) ?_)
    (refine br_ (fun h3 => ?_) (fun h3 => ?_) <;> (repeat (refine stg_ ?_)))
    · (refine RetOK.d rfl rfl ?_; conv => whnf)
      rw [hk2, if_pos h3]
    · (repeat (refine stg_ ?_))
      exact NextW.go (k + 1) covT_ ⟨by omega, by rw [hk2, h3]; rfl⟩ (by omega)
  · (refine RetOK.d rfl rfl ?_; conv => whnf)
    rw [hk2, fdx_end (by omega)]
theorem ctPeak_v (xs : List TPeak) (f : Nat) (p : TPeak → Bool) (hf : ∀ x : TPeak, PC Tryz.prog f [.d x.D] (.d (.bool (p x))) []) :
    PC Tryz.prog 82 [.d (.lst (xs.map TPeak.D)), .fn (.func f) []] (.d (.bool (xs.any p))) [] := by
  refine pc_intro ttOk (by kernel_rfl) Tryz.func82 rfl (by kernel_rfl) (by kernel_rfl) (by kernel_rfl) (fun hw => ?_)
  (conv => whnf)
  (refine cla_ (ixPeak_v xs f p hf) ?_)
  (refine RetOK.d rfl rfl ?_; conv => whnf)
  rw [← fdx_any p xs 0]
set_option maxHeartbeats 1000000 in
theorem ixint64_v (xs : List Int) (f : Nat) (p : Int → Bool) (hf : ∀ x : Int, PC Tryz.prog f [.d (.int .i64 x)] (.d (.bool (p x))) []) :
    PC Tryz.prog 177 [.d (.lst (xs.map (D.int .i64))), .fn (.func f) []] (.d (.int .i64 (fdx p xs 0))) [] := by
  refine pc_intro ttOk (by kernel_rfl) Tryz.func177 rfl (by kernel_rfl) (by kernel_rfl) (by kernel_rfl) (fun hw => ?_)
  have hL : (xs.map (D.int .i64)).length = xs.length := List.length_map _
  have hm : (xs.map (D.int .i64)).length ≤ 9223372036854775807 := hw.1.1
  (conv => whnf)
  refine LoopW.go (α := Nat) (fun k => [(0, .d (.lst (xs.map (D.int .i64)))), (1, .fn (.func f) []), (7, .d (.int .i64 (xs.map (D.int .i64)).length)), (8, .d (.int .i64 k))]) (fun k => [.gone]) (fun k => k ≤ xs.length ∧ fdx p xs 0 = fdx p (xs.drop k) k) (fun k => xs.length - k) 0 covT_ ?_ (fun k hk => ?_)
  · exact ⟨by omega, rfl⟩
  obtain ⟨hk1, hk2⟩ := hk
  (conv => whnf)
  (refine br_ (fun h2 => ?_) (fun h2 => ?_) <;> (repeat (refine stg_ ?_)))
  · obtain ⟨x, hx⟩ := at_lt' (xs := xs) (k := k) (by omega)
    rw [fdx_at hx] at hk2
    (repeat (refine stg_ ?_))
    (refine cla_ (hf x) ?_)
    (refine br_ (fun h3 => ?_) (fun h3 => ?_) <;> (repeat (refine stg_ ?_)))
    · (refine RetOK.d rfl rfl ?_; conv => whnf)
      rw [hk2, if_pos h3]
    · (repeat (refine stg_ ?_))
      exact NextW.go (k + 1) covT_ ⟨by omega, by rw [hk2, h3]; rfl⟩ (by omega)
  · (refine RetOK.d rfl rfl ?_; conv => whnf)
    rw [hk2, fdx_end (by omega)]
theorem ctint64_v (xs : List Int) (f : Nat) (p : Int → Bool) (hf : ∀ x : Int, PC Tryz.prog f [.d (.int .i64 x)] (.d (.bool (p x))) []) :
    PC Tryz.prog 115 [.d (.lst (xs.map (D.int .i64))), .fn (.func f) []] (.d (.bool (xs.any p))) [] := by
  refine pc_intro ttOk (by kernel_rfl) Tryz.func115 rfl (by kernel_rfl) (by kernel_rfl) (by kernel_rfl) (fun hw => ?_)
  (conv => whnf)
  (refine cla_ (ixint64_v xs f p hf) ?_)
  (refine RetOK.d rfl rfl ?_; conv => whnf)
  rw [← fdx_any p xs 0]
theorem nmNeg_v (n : Int) : PC Tryz.prog 116 [.d (.int .i64 n)] (.d (.bool (!nrm n))) [] := by
  refine pc_intro ttOk (by kernel_rfl) Tryz.func116 rfl (by kernel_rfl) (by kernel_rfl) (by kernel_rfl) (fun hw => ?_)
  (conv => whnf)
  (repeat' (first | (refine stg_ ?_) | (refine cl_ (isNormal_v n) ?_) | (refine br_ (fun hbr => ?_) (fun hbr => ?_))))
  all_goals ((refine RetOK.d rfl rfl ?_; conv => whnf); try rfl)
theorem areNormals_v (ns : List Int) (k : Nat) : PC Tryz.prog 57 [.d (.lst (ns.map (D.int .i64))), .d (.int .i64 k)] (.d (.bool (nmsB ns k))) [] := by
  refine pc_intro ttOk (by kernel_rfl) Tryz.func57 rfl (by kernel_rfl) (by kernel_rfl) (by kernel_rfl) (fun hw => ?_)
  have hL : (ns.map (D.int .i64)).length = ns.length := List.length_map _
  (conv => whnf)
  (repeat' (first | (refine stg_ ?_) | (refine cla_ (ctint64_v ns _ (fun n => !nrm n) nmNeg_v) ?_) | (refine br_ (fun hbr => ?_) (fun hbr => ?_))))
  all_goals ((refine RetOK.d rfl rfl ?_; conv => whnf); simp only [nmsB, List.all_eq_not_any_not]; first | (rw [decide_eq_true (by omega)]; simp; done) | (rw [decide_eq_false (by omega)]; simp; done))
theorem l30Normals_v (ns : List Int) (k : Nat) : PC Tryz.prog 55 [.d (.lst (ns.map (D.int .i64))), .d (.int .i64 k)] (.d (.bool (nmsB ns k))) [] := by
  refine pc_intro ttOk (by kernel_rfl) Tryz.func55 rfl (by kernel_rfl) (by kernel_rfl) (by kernel_rfl) (fun hw => ?_)
  have hL : (ns.map (D.int .i64)).length = ns.length := List.length_map _
  have hm : (ns.map (D.int .i64)).length ≤ 9223372036854775807 := hw.1.1
  (conv => whnf)
  refine LoopW.go (α := Nat) (fun i => [(0, .d (.lst (ns.map (D.int .i64)))), (1, .d (.int .i64 k)), (5, .d (.int .i64 i))]) (fun _ => [.gone]) (fun i => i ≤ ns.length ∧ ns.all nrm = (ns.drop i).all nrm) (fun i => ns.length - i) 0 covT_ ?_ (fun i hi => ?_)
  · exact ⟨by omega, rfl⟩
  obtain ⟨hk1, hk2⟩ := hi
  (conv => whnf)
  (refine br_ (fun h2 => ?_) (fun h2 => ?_) <;> (repeat (refine stg_ ?_)))
  · obtain ⟨x, hx⟩ := at_lt' (xs := ns) (k := i) (by omega)
    rw [drop_at hx, List.all_cons] at hk2
    (repeat' (first | (refine stg_ ?_) | (refine cl_ (l29Normal_v _) ?_) | (refine br_ (fun hbr => ?_) (fun hbr => ?_))))
    all_goals first | ((refine RetOK.d rfl rfl ?_; conv => whnf); simp_all [nmsB]; done) | (exact NextW.go (i + 1) covT_ ⟨by omega, by simp_all⟩ (by omega))
  · (refine RetOK.d rfl rfl ?_; conv => whnf)
    rw [nmsB, hk2, List.drop_eq_nil_of_le (by omega), List.all_nil, Bool.and_true]
    congr 1
    rw [Bool.eq_iff_iff]; simp; try omega
theorem l30Peaks_v (xs : List TPeak) : PC Tryz.prog 91 [.d (.lst (xs.map TPeak.D))] (.d (.bool (pksB xs))) [] := by
  refine pc_intro ttOk (by kernel_rfl) Tryz.func91 rfl (by kernel_rfl) (by kernel_rfl) (by kernel_rfl) (fun hw => ?_)
  have hL : (xs.map TPeak.D).length = xs.length := List.length_map _
  have hm : (xs.map TPeak.D).length ≤ 9223372036854775807 := hw.1.1
  (conv => whnf)
  refine LoopW.go (α := Nat) (fun k => [(0, .d (.lst (xs.map TPeak.D))), (3, .d (.int .i64 k))]) (fun k => [.gone]) (fun k => k ≤ xs.length ∧ xs.all pkB = (xs.drop k).all pkB) (fun k => xs.length - k) 0 covT_ ?_ (fun k hk => ?_)
  · exact ⟨by omega, rfl⟩
  obtain ⟨hk1, hk2⟩ := hk
  (conv => whnf)
  (refine br_ (fun h2 => ?_) (fun h2 => ?_) <;> (repeat (refine stg_ ?_)))
  · obtain ⟨x, hx⟩ := at_lt' (xs := xs) (k := k) (by omega)
    rw [drop_at hx, List.all_cons] at hk2
    (repeat' (first | (refine stg_ ?_) | (refine cla_ (l30Peak_v x) ?_) | (refine br_ (fun hbr => ?_) (fun hbr => ?_))))
    all_goals first | ((refine RetOK.d rfl rfl ?_; conv => whnf); simp_all [pksB]; done) | exact NextW.go (k + 1) covT_ ⟨by omega, by simp_all⟩ (by omega)
  · (refine RetOK.d rfl rfl ?_; conv => whnf)
    rw [pksB, hk2, List.drop_eq_nil_of_le (by omega), List.all_nil, Bool.and_true]
    congr 1
    rw [Bool.eq_iff_iff]; simp; try omega
def ltI : Option Int → Int → Bool
  | none, _ => true
  | some q, x => decide (q < x)
def ltG : Option TGlyphDelta → TGlyphDelta → Bool
  | none, _ => true
  | some q, x => decide (q.fGlyph < x.fGlyph)
def riG : Option Int → List Int → Bool
  | _, [] => true
  | o, x :: t => ltI o x && riG (some x) t
def knG : Option Int → List Int → Bool
  | _, [] => true
  | o, x :: t => inB x 0 719 && (ltI o x && knG (some x) t)
def pvI (xs : List Int) (k : Nat) : Option Int := match k with | 0 => none | k + 1 => xs[k]?
theorem riG_at {xs : List Int} {k : Nat} {x : Int} (hx : xs[k]? = some x) : riG (pvI xs k) (xs.drop k) = (ltI (pvI xs k) x && riG (pvI xs (k + 1)) (xs.drop (k + 1))) := by
  rw [drop_at hx, riG, pvI, hx]
theorem knG_at {xs : List Int} {k : Nat} {x : Int} (hx : xs[k]? = some x) : knG (pvI xs k) (xs.drop k) = (inB x 0 719 && (ltI (pvI xs k) x && knG (pvI xs (k + 1)) (xs.drop (k + 1)))) := by
  rw [drop_at hx, knG, pvI, hx]
theorem pvI_pos {xs : List Int} {k : Nat} {x : Int} (h : 0 < k) (hx : xs[k - 1]? = some x) : pvI xs k = some x := by
  obtain ⟨j, rfl⟩ : ∃ j, k = j + 1 := ⟨k - 1, by omega⟩
  exact hx
theorem riG_end {xs : List Int} {k : Nat} {o : Option Int} (hk : xs.length ≤ k) : riG o (xs.drop k) = true := by
  rw [List.drop_eq_nil_of_le hk]; rfl
theorem knG_end {xs : List Int} {k : Nat} {o : Option Int} (hk : xs.length ≤ k) : knG o (xs.drop k) = true := by
  rw [List.drop_eq_nil_of_le hk]; rfl
theorem riG_lt : ∀ {xs : List Int} {q : Int}, riG (some q) xs = true → ∀ x ∈ xs, q < x
  | [], _, _, x, h => by simp at h
  | y :: t, q, h, x, hx => by
    simp only [riG, ltI, Bool.and_eq_true, decide_eq_true_eq] at h
    rcases List.mem_cons.1 hx with rfl | hx
    · exact h.1
    · have := riG_lt h.2 x hx
      omega
theorem knG_ri : ∀ (o : Option Int) (xs : List Int), knG o xs = true → riG o xs = true ∧ ∀ x ∈ xs, 0 ≤ x ∧ x ≤ 719
  | _, [], _ => ⟨rfl, by simp⟩
  | o, y :: t, h => by
    simp only [knG, inB, Bool.and_eq_true, decide_eq_true_eq] at h
    have ih := knG_ri (some y) t h.2.2
    refine ⟨by rw [riG, h.2.1, ih.1]; rfl, fun x hx => ?_⟩
    rcases List.mem_cons.1 hx with rfl | hx
    · exact h.1
    · exact ih.2 x hx
theorem ri_knG : ∀ (o : Option Int) (xs : List Int), riG o xs = true → (∀ x ∈ xs, 0 ≤ x ∧ x ≤ 719) → knG o xs = true
  | _, [], _, _ => rfl
  | o, y :: t, h, hb => by
    simp only [riG, Bool.and_eq_true] at h
    have h1 := hb y (by simp)
    rw [knG, h.1, ri_knG (some y) t h.2 (fun x hx => hb x (by simp [hx]))]
    simp [inB]; omega
theorem riG_last : ∀ {xs : List Int} {o : Option Int} {z : Int}, riG o xs = true → xs[xs.length - 1]? = some z → ∀ x ∈ xs, x ≤ z
  | [], _, _, _, _, x, h => by simp at h
  | [y], o, z, _, hz, x, hx => by simp at hz hx; omega
  | y :: w :: t, o, z, h, hz, x, hx => by
    rw [riG, Bool.and_eq_true] at h
    have hz' : (w :: t)[(w :: t).length - 1]? = some z := by simpa using hz
    have ih := riG_last (xs := w :: t) h.2 hz'
    rcases List.mem_cons.1 hx with rfl | hx
    · have h1 := riG_lt h.2 w (by simp)
      have h2 := ih w (by simp)
      omega
    · exact ih x hx
theorem riG_first {xs : List Int} {a : Int} (h : riG none xs = true) (ha : xs[0]? = some a) : ∀ x ∈ xs, a ≤ x := by
  cases xs with
  | nil => simp at ha
  | cons y t =>
    simp at ha
    subst ha
    intro x hx
    rw [riG, Bool.and_eq_true] at h
    rcases List.mem_cons.1 hx with rfl | hx
    · exact Int.le_refl _
    · have := riG_lt h.2 x hx
      omega
theorem kn_eq {xs : List Int} {a z : Int} (ha : xs[0]? = some a) (hz : xs[xs.length - 1]? = some z) : knG none xs = (riG none xs && (decide (0 ≤ a) && decide (z ≤ 719))) := by
  rw [Bool.eq_iff_iff]
  simp only [Bool.and_eq_true, decide_eq_true_eq]
  constructor
  · intro h
    obtain ⟨h1, h2⟩ := knG_ri _ _ h
    exact ⟨h1, (h2 a (List.mem_of_getElem? ha)).1, (h2 z (List.mem_of_getElem? hz)).2⟩
  · rintro ⟨h1, h2, h3⟩
    refine ri_knG _ _ h1 (fun x hx => ?_)
    have := riG_first h1 ha x hx
    have := riG_last h1 hz x hx
    omega
def gdB (d : TGlyphDelta) : Bool := inB d.fGlyph 0 39 && (knG none d.fKnots && (decide (d.fKnots.length = d.fMoves.length) && (d.fMoves.all pntB && inB d.fAdvance (-262144) 262144)))
def dsG : Option TGlyphDelta → List TGlyphDelta → Bool
  | _, [] => true
  | o, x :: t => gdB x && (ltG o x && dsG (some x) t)
theorem dsG_at {xs : List TGlyphDelta} {k : Nat} {x : TGlyphDelta} (hx : xs[k]? = some x) : dsG (pv xs k) (xs.drop k) = (gdB x && (ltG (pv xs k) x && dsG (pv xs (k + 1)) (xs.drop (k + 1)))) := by
  rw [drop_at hx, dsG, pv_succ, hx]
theorem dsG_end {xs : List TGlyphDelta} {k : Nat} {o : Option TGlyphDelta} (hk : xs.length ≤ k) : dsG o (xs.drop k) = true := by
  rw [List.drop_eq_nil_of_le hk]; rfl
def maB (n : Nat) (m : TMaster) : Bool := decide (m.fPeaks.length = n) && (decide (m.fDeltas.length ≤ 20) && (m.fPeaks.all pkB && dsG none m.fDeltas))
def wfB (v : TVariation) : Bool := axsB v.fAxes && (decide (v.fMasters.length ≤ 8) && v.fMasters.all (maB v.fAxes.length))
def srt (xs : List Int) : Prop := ∀ (i j : Nat) (x y : Int), i < j → xs[i]? = some x → xs[j]? = some y → x < y
theorem ri_srt : ∀ {o : Option Int} {xs : List Int}, riG o xs = true → srt xs
  | _, [], _ => fun i j x y _ h _ => by simp at h
  | o, z :: t, h => by
    simp only [riG, Bool.and_eq_true] at h
    intro i j x y hij hi hj
    cases j with
    | zero => omega
    | succ j =>
      cases i with
      | zero =>
        simp at hi hj
        subst hi
        exact riG_lt h.2 y (List.mem_of_getElem? hj)
      | succ i => exact ri_srt h.2 i j x y (by omega) (by simpa using hi) (by simpa using hj)
theorem srt_take {xs : List Int} (h : srt xs) (n : Nat) : srt (xs.take n) := fun i j x y hij hi hj => by
  rw [List.getElem?_take] at hi hj
  split at hi
  · split at hj
    · exact h i j x y hij hi hj
    · cases hj
  · cases hi
theorem srt_drop {xs : List Int} (h : srt xs) (n : Nat) : srt (xs.drop n) := fun i j x y hij hi hj => by
  rw [List.getElem?_drop] at hi hj
  exact h _ _ x y (by omega) hi hj
def cl (xs : List Int) (b : Int) : Nat := (xs.takeWhile (fun x => decide (x < b))).length
theorem cl_le (xs : List Int) (b : Int) : cl xs b ≤ xs.length := by
  unfold cl
  exact (List.takeWhile_sublist _).length_le
theorem cl_lt : ∀ {xs : List Int} {b : Int} {j : Nat} {x : Int}, j < cl xs b → xs[j]? = some x → x < b
  | [], b, j, x, h, _ => by simp [cl] at h
  | y :: t, b, j, x, h, hx => by
    unfold cl at h
    rw [List.takeWhile_cons] at h
    split at h
    · rename_i hy
      cases j with
      | zero => simp at hx; subst hx; simpa using hy
      | succ j => exact cl_lt (xs := t) (by unfold cl; simpa using h) (by simpa using hx)
    · simp at h
theorem cl_at : ∀ {xs : List Int} {b : Int} {x : Int}, xs[cl xs b]? = some x → b ≤ x
  | [], b, x, h => by simp [cl] at h
  | y :: t, b, x, h => by
    unfold cl at h
    rw [List.takeWhile_cons] at h
    split at h
    · exact cl_at (xs := t) (by unfold cl; simpa using h)
    · rename_i hy
      simp at h hy
      subst h
      exact hy
theorem cl_ge {xs : List Int} (hs : srt xs) {b : Int} {j : Nat} {x : Int} (h : cl xs b ≤ j) (hx : xs[j]? = some x) : b ≤ x := by
  have hj := (List.getElem?_eq_some_iff.1 hx).1
  obtain ⟨y, hy⟩ := at_lt (xs := xs) (k := cl xs b) (by omega)
  have h1 := cl_at hy
  rcases Nat.lt_or_ge (cl xs b) j with h2 | h2
  · have := hs _ _ y x h2 hy hx; omega
  · obtain rfl : j = cl xs b := by omega
    rw [hx] at hy; cases hy; exact h1
theorem cl_mono {xs : List Int} (hs : srt xs) {a b : Int} (h : a ≤ b) : cl xs a ≤ cl xs b := by
  rcases Nat.lt_or_ge (cl xs b) (cl xs a) with h1 | h1
  · have := cl_le xs a
    obtain ⟨y, hy⟩ := at_lt (xs := xs) (k := cl xs b) (by omega)
    have h2 := cl_lt h1 hy
    have h3 := cl_at hy
    omega
  · exact h1
def fd (xs : List Int) (b : Int) : Bool := xs[cl xs b]? == some b
def bt0 (x a b c d : Int) : Int := if a = b then (if c = d then c else 0) else if x ≤ a then c else if b ≤ x then d else c + divR ((x - a) * (d - c)) (b - a)
def bt (x a b c d : Int) : Int := if b < a then bt0 x b a d c else bt0 x a b c d
def atK (ks : List TKnot) (n : Nat) : TPt := ((ks[n]?).map (·.fAt)).getD pt0
def atB (bs : List TPt) (n : Nat) : TPt := (bs[n]?).getD pt0
def atF (fs : List Int) (n : Nat) : Int := (fs[n]?).getD 0
def mv1 (ks : List TKnot) (b : Nat) (fs : List Int) (bs : List TPt) (i : Nat) : TPt :=
  if fs.length = 0 then pt0 else if fd fs (b + i : Nat) = true then atB bs (cl fs (b + i : Nat)) else
  ⟨bt (atK ks i).fX (atK ks (atF fs ((cl fs (b + i : Nat) + fs.length - 1) % fs.length) - b).toNat).fX (atK ks (atF fs (cl fs (b + i : Nat) % fs.length) - b).toNat).fX (atB bs ((cl fs (b + i : Nat) + fs.length - 1) % fs.length)).fX (atB bs (cl fs (b + i : Nat) % fs.length)).fX,
   bt (atK ks i).fY (atK ks (atF fs ((cl fs (b + i : Nat) + fs.length - 1) % fs.length) - b).toNat).fY (atK ks (atF fs (cl fs (b + i : Nat) % fs.length) - b).toNat).fY (atB bs ((cl fs (b + i : Nat) + fs.length - 1) % fs.length)).fY (atB bs (cl fs (b + i : Nat) % fs.length)).fY⟩
def slF {α : Type} (ks : List Int) (xs : List α) (b n : Nat) : List α := (xs.drop (cl ks b)).take (cl ks (b + n : Nat) - cl ks b)
def rsL (ks : List TKnot) (b : Nat) (fs : List Int) (bs : List TPt) (k : Nat) : List TPt := (List.range k).map (mv1 ks b fs bs)
theorem rsL_succ (ks : List TKnot) (b : Nat) (fs : List Int) (bs : List TPt) (k : Nat) : rsL ks b fs bs (k + 1) = rsL ks b fs bs k ++ [mv1 ks b fs bs k] := by simp [rsL, List.range_succ]
theorem rsL_len (ks : List TKnot) (b : Nat) (fs : List Int) (bs : List TPt) (k : Nat) : (rsL ks b fs bs k).length = k := by simp [rsL]
def inL (ns : List Int) (ms : List TPt) : Nat → List TLoop → List TPt
  | _, [] => []
  | b, l :: t => rsL l.fKnots b (slF ns ns b l.fKnots.length) (slF ns ms b l.fKnots.length) l.fKnots.length ++ inL ns ms (b + l.fKnots.length) t
def cnK : List TLoop → Nat
  | [] => 0
  | l :: t => l.fKnots.length + cnK t
theorem cnK_snoc : ∀ (ls : List TLoop) (l : TLoop), cnK (ls ++ [l]) = cnK ls + l.fKnots.length
  | [], l => by simp [cnK]
  | x :: t, l => by simp only [List.cons_append, cnK, cnK_snoc t l]; omega
theorem inL_snoc (ns : List Int) (ms : List TPt) : ∀ (b : Nat) (ls : List TLoop) (l : TLoop), inL ns ms b (ls ++ [l]) = inL ns ms b ls ++ rsL l.fKnots (b + cnK ls) (slF ns ns (b + cnK ls) l.fKnots.length) (slF ns ms (b + cnK ls) l.fKnots.length) l.fKnots.length
  | b, [], l => by simp [inL, cnK]
  | b, x :: t, l => by
    simp only [List.cons_append, inL, inL_snoc ns ms _ t l, cnK, List.append_assoc]
    rw [show b + x.fKnots.length + cnK t = b + (x.fKnots.length + cnK t) by omega]
theorem inL_len (ns : List Int) (ms : List TPt) : ∀ (b : Nat) (ls : List TLoop), (inL ns ms b ls).length = cnK ls
  | b, [] => rfl
  | b, l :: t => by simp only [inL, cnK, List.length_append, rsL_len, inL_len ns ms _ t]
theorem cnK_le : ∀ {ls : List TLoop}, (∀ l ∈ ls, loopB l = true) → cnK ls ≤ 60 * ls.length
  | [], _ => by simp [cnK]
  | l :: t, h => by
    have h1 := (loop_in (h l (by simp))).2.1
    have h2 := cnK_le (ls := t) (fun x hx => h x (by simp [hx]))
    simp only [cnK, List.length_cons]; omega
theorem cnK_take : ∀ (ls : List TLoop) (k : Nat), cnK (ls.take k) ≤ cnK ls
  | [], k => by simp [cnK]
  | l :: t, 0 => by simp [cnK]
  | l :: t, k + 1 => by
    have := cnK_take t k
    simp only [List.take_succ_cons, cnK]; omega
theorem slF_srt {ns : List Int} (h : srt ns) (b n : Nat) : srt (slF ns ns b n) := srt_take (srt_drop h _) _
theorem slF_len {α : Type} {ns : List Int} {xs : List α} (h : ns.length = xs.length) (b n : Nat) (hm : cl ns b ≤ cl ns (b + n : Nat)) : (slF ns xs b n).length = cl ns (b + n : Nat) - cl ns b := by
  have := cl_le ns (b + n : Nat)
  simp only [slF, List.length_take, List.length_drop]; omega
theorem slF_in {ns : List Int} (h : srt ns) {b n j : Nat} {x : Int} (hx : (slF ns ns b n)[j]? = some x) : (b : Int) ≤ x ∧ x < ((b + n : Nat) : Int) := by
  rw [slF, List.getElem?_take] at hx
  split at hx
  · rename_i hj
    rw [List.getElem?_drop] at hx
    exact ⟨cl_ge h (by omega) hx, cl_lt (by omega) hx⟩
  · cases hx
theorem cl_idx {F : List Int} (hs : srt F) {j : Nat} {x : Int} (h : F[j]? = some x) : cl F x = j := by
  rcases Nat.lt_trichotomy (cl F x) j with h1 | h1 | h1
  · have hj := (List.getElem?_eq_some_iff.1 h).1
    obtain ⟨y, hy⟩ := at_lt (xs := F) (k := cl F x) (by omega)
    have h2 := cl_at hy
    have h3 := hs _ _ y x h1 hy h
    omega
  · exact h1
  · have := cl_lt h1 h; omega
theorem mem_fd {F : List Int} (hs : srt F) (x : Int) : fd F x = true ↔ x ∈ F := by
  constructor
  · intro h
    exact List.mem_of_getElem? (by simpa [fd] using h)
  · intro h
    obtain ⟨j, hj⟩ := List.getElem?_of_mem h
    rw [fd, cl_idx hs hj, hj]; simp
def fxV (b : Nat) (F : List Int) (B : List TPt) (j i : Nat) : TPt := if ((b + i : Nat) : Int) ∈ F.take j then atB B (cl F ((b + i : Nat) : Int)) else pt0
def fxL (n b : Nat) (F : List Int) (B : List TPt) (j : Nat) : List TPt := (List.range n).map (fxV b F B j)
def myV (K : List TKnot) (b : Nat) (F : List Int) (B : List TPt) (k i : Nat) : TPt := if i < k then mv1 K b F B i else fxV b F B F.length i
def myL (n : Nat) (K : List TKnot) (b : Nat) (F : List Int) (B : List TPt) (k : Nat) : List TPt := (List.range n).map (myV K b F B k)
theorem fxL_len (n b : Nat) (F : List Int) (B : List TPt) (j : Nat) : (fxL n b F B j).length = n := by simp [fxL]
theorem myL_len (n : Nat) (K : List TKnot) (b : Nat) (F : List Int) (B : List TPt) (j : Nat) : (myL n K b F B j).length = n := by simp [myL]
theorem fxL_zero (n b : Nat) (F : List Int) (B : List TPt) : fxL n b F B 0 = List.replicate n pt0 := by
  apply List.ext_getElem
  · simp [fxL]
  · intro i h1 h2
    simp [fxL, fxV]
theorem fxL_set {n b : Nat} {F : List Int} {B : List TPt} (hs : srt F) {j : Nat} {x : Int} {p : TPt} (hx : F[j]? = some x) (hp : B[j]? = some p) (h1 : (b : Int) ≤ x) : (fxL n b F B j).set (x - (b : Int)).toNat p = fxL n b F B (j + 1) := by
  apply List.ext_getElem
  · simp [fxL]
  · intro i h2 h3
    have hi : i < n := by simpa [fxL] using h3
    rw [List.getElem_set]
    simp only [fxL, List.getElem_map, List.getElem_range]
    have ht : F.take (j + 1) = F.take j ++ [x] := take_snoc_get hx
    split
    · rename_i e
      have hxe : x = ((b + i : Nat) : Int) := by omega
      rw [fxV, if_pos (by rw [ht]; simp [hxe]), ← hxe, cl_idx hs hx, atB, hp]; rfl
    · rename_i e
      have hxe : ¬ ((b + i : Nat) : Int) = x := by omega
      rw [fxV, fxV, ht]
      congr 1
      rw [eq_iff_iff, List.mem_append, List.mem_singleton]
      exact ⟨fun h => .inl h, fun h => h.elim id (fun h => absurd h hxe)⟩
theorem myL_zero (n : Nat) (K : List TKnot) (b : Nat) (F : List Int) (B : List TPt) : myL n K b F B 0 = fxL n b F B F.length := by
  simp [myL, fxL, myV]
theorem myL_end (K : List TKnot) (b : Nat) (F : List Int) (B : List TPt) (n : Nat) : myL n K b F B n = rsL K b F B n := by
  apply List.ext_getElem
  · simp [myL, rsL]
  · intro i h1 h2
    have hi : i < n := by simpa [rsL] using h2
    simp [myL, rsL, myV, hi]
theorem rs_none {K : List TKnot} {b : Nat} {F : List Int} {B : List TPt} (h : F.length = 0) (n : Nat) : rsL K b F B n = List.replicate n pt0 := by
  apply List.ext_getElem
  · simp [rsL]
  · intro i h1 h2
    simp [rsL, mv1, h]
theorem mv1_fix {K : List TKnot} {b : Nat} {F : List Int} {B : List TPt} (hs : srt F) {i : Nat} (h : ((b + i : Nat) : Int) ∈ F) : mv1 K b F B i = atB B (cl F ((b + i : Nat) : Int)) := by
  have h0 : ¬ F.length = 0 := fun e => by rw [List.eq_nil_of_length_eq_zero e] at h; cases h
  rw [mv1, if_neg h0, if_pos ((mem_fd hs _).2 h)]
theorem fxV_fix {b : Nat} {F : List Int} {B : List TPt} {i : Nat} (h : ((b + i : Nat) : Int) ∈ F) : fxV b F B F.length i = atB B (cl F ((b + i : Nat) : Int)) := by
  rw [fxV, if_pos (by rw [List.take_length]; exact h)]
theorem myL_skip {n : Nat} {K : List TKnot} {b : Nat} {F : List Int} {B : List TPt} (hs : srt F) {k : Nat} (h : ((b + k : Nat) : Int) ∈ F) : myL n K b F B (k + 1) = myL n K b F B k := by
  apply List.ext_getElem
  · simp [myL]
  · intro i h1 h2
    simp only [myL, List.getElem_map, List.getElem_range, myV]
    rcases Nat.lt_trichotomy i k with h3 | h3 | h3
    · rw [if_pos (by omega), if_pos h3]
    · subst h3
      rw [if_pos (by omega), if_neg (by omega), mv1_fix hs h, fxV_fix h]
    · rw [if_neg (by omega), if_neg (by omega)]
theorem myL_set {n : Nat} {K : List TKnot} {b : Nat} {F : List Int} {B : List TPt} {k : Nat} : (myL n K b F B k).set k (mv1 K b F B k) = myL n K b F B (k + 1) := by
  apply List.ext_getElem
  · simp [myL]
  · intro i h1 h2
    rw [List.getElem_set]
    simp only [myL, List.getElem_map, List.getElem_range, myV]
    split
    · rename_i e; subst e; rw [if_pos (by omega)]
    · rename_i e
      rcases Nat.lt_or_ge i k with h3 | h3
      · rw [if_pos h3, if_pos (by omega)]
      · rw [if_neg (by omega), if_neg (by omega)]
theorem myL_at {n : Nat} {K : List TKnot} {b : Nat} {F : List Int} {B : List TPt} (hs : srt F) {k j : Nat} {x : Int} {p : TPt} (hx : F[j]? = some x) (hp : B[j]? = some p) (h1 : (b : Int) ≤ x) (h2 : x < ((b + n : Nat) : Int)) : (myL n K b F B k)[(x - (b : Int)).toNat]? = some p := by
  have hi : (x - (b : Int)).toNat < n := by omega
  have hm : ((b + (x - (b : Int)).toNat : Nat) : Int) ∈ F := by
    have : ((b + (x - (b : Int)).toNat : Nat) : Int) = x := by omega
    rw [this]; exact List.mem_of_getElem? hx
  have he : ((b + (x - (b : Int)).toNat : Nat) : Int) = x := by omega
  rw [myL, List.getElem?_map, List.getElem?_range hi, Option.map_some, myV]
  have hv : atB B (cl F ((b + (x - (b : Int)).toNat : Nat) : Int)) = p := by rw [he, cl_idx hs hx, atB, hp]; rfl
  split
  · rw [mv1_fix hs hm, hv]
  · rw [fxV_fix hm, hv]
theorem slF_at {α : Type} {ns : List Int} {xs : List α} {b n i : Nat} {x : α} (h1 : cl ns b ≤ i) (h2 : i < cl ns (b + n : Nat)) (hx : xs[i]? = some x) : (slF ns xs b n)[i - cl ns b]? = some x := by
  rw [slF, List.getElem?_take, if_pos (by omega), List.getElem?_drop, show cl ns b + (i - cl ns b) = i by omega]
  exact hx
theorem in_iff {ns : List Int} (hs : srt ns) {b n i : Nat} {x : Int} (hx : ns[i]? = some x) : inB x (b : Int) ((b : Int) + (n : Int) - 1) = decide (cl ns b ≤ i ∧ i < cl ns (b + n : Nat)) := by
  rw [inB, Bool.eq_iff_iff]
  simp only [Bool.and_eq_true, decide_eq_true_eq]
  constructor
  · rintro ⟨h1, h2⟩
    constructor
    · apply Classical.byContradiction
      intro h
      have := cl_lt (b := (b : Int)) (by omega) hx
      omega
    · apply Classical.byContradiction
      intro h
      have := cl_ge (b := ((b + n : Nat) : Int)) hs (by omega) hx
      omega
  · rintro ⟨h1, h2⟩
    have a1 := cl_ge (b := (b : Int)) hs h1 hx
    have a2 := cl_lt (b := ((b + n : Nat) : Int)) h2 hx
    omega
def afI (c m i : Nat) : Nat := if max i c < m then max i c else 0
def beI (c m i : Nat) : Nat := if min i c = 0 then m - 1 else min i c - 1
theorem afI_end {c m : Nat} (h0 : 0 < m) (hc : c ≤ m) : afI c m 0 = c % m := by
  unfold afI
  rw [Nat.zero_max]
  split
  · rename_i h; rw [Nat.mod_eq_of_lt h]
  · obtain rfl : c = m := by omega
    rw [Nat.mod_self]
theorem beI_end {c m : Nat} (h0 : 0 < m) (hc : c ≤ m) : beI c m m = (c + m - 1) % m := by
  unfold beI
  rw [Nat.min_eq_right hc]
  split
  · rename_i h; subst h; rw [Nat.zero_add, Nat.mod_eq_of_lt (by omega)]
  · rename_i h
    rw [show c + m - 1 = c - 1 + m by omega, Nat.add_mod_right, Nat.mod_eq_of_lt (by omega)]
theorem ri_one (xs : List Int) : riG none xs = riG (pvI xs 1) (xs.drop 1) := by cases xs <;> simp [riG, pvI, ltI]
theorem isGlyphNumber_v (n : Int) : PC Tryz.prog 150 [.d (.int .i64 n)] (.d (.bool (inB n 0 39))) [] := by
  refine pc_intro ttOk (by kernel_rfl) Tryz.func150 rfl (by kernel_rfl) (by kernel_rfl) (by kernel_rfl) (fun hw => ?_)
  (conv => whnf)
  (repeat' (first | (refine stg_ ?_) | fail | (refine br_ (fun hbr => ?_) (fun hbr => ?_))))
  all_goals ((refine RetOK.d rfl rfl ?_; conv => whnf); (try simp_all [inB]); (try (rw [Bool.eq_iff_iff]; simp)); (try omega))
theorem increasing_v (xs : List Int) : PC Tryz.prog 151 [.d (.lst (xs.map (D.int .i64)))] (.d (.bool (riG none xs))) [] := by
  refine pc_intro ttOk (by kernel_rfl) Tryz.func151 rfl (by kernel_rfl) (by kernel_rfl) (by kernel_rfl) (fun hw => ?_)
  have hL : (xs.map (D.int .i64)).length = xs.length := List.length_map _
  have hm : (xs.map (D.int .i64)).length ≤ 9223372036854775807 := hw.1.1
  (conv => whnf)
  refine LoopW.go (α := Nat) (fun k => [(0, .d (.lst (xs.map (D.int .i64)))), (3, .d (.int .i64 k))]) (fun k => [.gone]) (fun k => 1 ≤ k ∧ k ≤ xs.length + 1 ∧ riG none xs = riG (pvI xs k) (xs.drop k)) (fun k => xs.length - k) 1 covT_ ?_ (fun k hk => ?_)
  · exact ⟨by omega, by omega, ri_one xs⟩
  obtain ⟨hk0, hk1, hk2⟩ := hk
  (conv => whnf)
  (refine br_ (fun h2 => ?_) (fun h2 => ?_) <;> (repeat (refine stg_ ?_)))
  · obtain ⟨x, hx⟩ := at_lt' (xs := xs) (k := k) (by omega)
    obtain ⟨p, hp⟩ := at_lt' (xs := xs) (k := k - 1) (by omega)
    have hp' : (xs.map (D.int .i64))[((k : Int) - 1).toNat]? = some (.int .i64 p) := by
      have : ((k : Int) - 1).toNat = k - 1 := by omega
      rw [this, List.getElem?_map, hp]; rfl
    rw [riG_at hx, pvI_pos hk0 hp, ltI] at hk2
    (repeat' (first | (refine stg_ ?_) | (refine IxW.at (by omega) hp' ?_; (conv => whnf)) | (refine br_ (fun hbr => ?_) (fun hbr => ?_))))
    all_goals first | ((refine RetOK.d rfl rfl ?_; conv => whnf); rw [hk2]; simp_all; done) | ((refine RetOK.d rfl rfl ?_; conv => whnf); rw [hk2, decide_eq_false (by omega)]; rfl) | exact NextW.go (k + 1) covT_ ⟨by omega, by omega, by rw [hk2, decide_eq_true (by omega)]; rfl⟩ (by omega)
  · (refine RetOK.d rfl rfl ?_; conv => whnf)
    rw [hk2, riG_end (by omega)]
set_option maxHeartbeats 2000000 in
theorem validDelta_v (d : TGlyphDelta) : PC Tryz.prog 85 [.d d.D] (.d (.bool (gdB d))) [] := by
  refine pc_intro ttOk (by kernel_rfl) Tryz.func85 rfl (by kernel_rfl) (by kernel_rfl) (by kernel_rfl) (fun hw => ?_)
  have hL : (d.fKnots.map (D.int .i64)).length = d.fKnots.length := List.length_map _
  have hL2 : (d.fMoves.map TPt.D).length = d.fMoves.length := List.length_map _
  have hm : (d.fKnots.map (D.int .i64)).length ≤ 9223372036854775807 := hw.1.2.1.1
  have c1 := isGlyphNumber_v d.fGlyph
  have c2 := increasing_v d.fKnots
  have c3 := validPts_v d.fMoves
  have hF : knG none d.fKnots = true → riG none d.fKnots = true := fun h => (knG_ri _ _ h).1
  have hG : gdB d = (inB d.fGlyph 0 39 && (knG none d.fKnots && (decide (d.fKnots.length = d.fMoves.length) && (d.fMoves.all pntB && inB d.fAdvance (-262144) 262144)))) := rfl
  cases hg : inB d.fGlyph 0 39 <;> rw [hg] at c1 hG
  · (conv => whnf)
    (repeat' (first | (refine stg_ ?_) | (refine cla_ (c1) ?_) | (refine cla_ (c2) ?_) | (refine cla_ (c3) ?_) | (refine br_ (fun hbr => ?_) (fun hbr => ?_))))
    all_goals ((refine RetOK.d rfl rfl ?_; conv => whnf); rw [hG]; rfl)
  cases hr : riG none d.fKnots <;> rw [hr] at c2 hF
  · have hk : knG none d.fKnots = false := by
      cases hk : knG none d.fKnots
      · rfl
      · exact absurd (hF hk) (by decide)
    rw [hk] at hG
    (conv => whnf)
    (repeat' (first | (refine stg_ ?_) | (refine cla_ (c1) ?_) | (refine cla_ (c2) ?_) | (refine cla_ (c3) ?_) | (refine br_ (fun hbr => ?_) (fun hbr => ?_))))
    all_goals ((refine RetOK.d rfl rfl ?_; conv => whnf); rw [hG]; rfl)
  by_cases hq : d.fKnots.length = d.fMoves.length
  rotate_left
  · rw [decide_eq_false hq] at hG
    (conv => whnf)
    (repeat' (first | (refine stg_ ?_) | (refine cla_ (c1) ?_) | (refine cla_ (c2) ?_) | (refine cla_ (c3) ?_) | (refine br_ (fun hbr => ?_) (fun hbr => ?_))))
    all_goals first | (exfalso; omega) | ((refine RetOK.d rfl rfl ?_; conv => whnf); rw [hG]; simp)
  rw [decide_eq_true hq] at hG
  cases hp : d.fMoves.all pntB <;> rw [hp] at c3 hG
  · (conv => whnf)
    (repeat' (first | (refine stg_ ?_) | (refine cla_ (c1) ?_) | (refine cla_ (c2) ?_) | (refine cla_ (c3) ?_) | (refine br_ (fun hbr => ?_) (fun hbr => ?_))))
    all_goals first | (exfalso; omega) | ((refine RetOK.d rfl rfl ?_; conv => whnf); rw [hG]; simp)
  rcases Nat.eq_zero_or_pos d.fKnots.length with h0 | h0
  · have hkn : d.fKnots = [] := List.eq_nil_of_length_eq_zero h0
    have e1 : knG none d.fKnots = true := by rw [hkn]; rfl
    rw [e1] at hG
    (conv => whnf)
    (repeat' (first | (refine stg_ ?_) | (refine cla_ (c1) ?_) | (refine cla_ (c2) ?_) | (refine cla_ (c3) ?_) | (refine br_ (fun hbr => ?_) (fun hbr => ?_))))
    all_goals first | (exfalso; omega) | ((refine RetOK.d rfl rfl ?_; conv => whnf); rw [hG]; (try simp_all [inB]); (try (rw [Bool.eq_iff_iff]; simp)); (try omega))
  · obtain ⟨a, ha⟩ := at_lt' (xs := d.fKnots) (k := 0) h0
    obtain ⟨z, hz⟩ := at_lt' (xs := d.fKnots) (k := d.fKnots.length - 1) (by omega)
    have hK := kn_eq ha hz
    rw [hK, hr] at hG
    have ha' : (d.fKnots.map (D.int .i64))[0]? = some (.int .i64 a) := by rw [List.getElem?_map, ha]; rfl
    have hz' : (d.fKnots.map (D.int .i64))[(((d.fKnots.map (D.int .i64)).length : Int) - 1).toNat]? = some (.int .i64 z) := by
      have : (((d.fKnots.map (D.int .i64)).length : Int) - 1).toNat = d.fKnots.length - 1 := by omega
      rw [this, List.getElem?_map, hz]; rfl
    (conv => whnf)
    (repeat' (first | (refine stg_ ?_) | (refine cla_ (c1) ?_) | (refine cla_ (c2) ?_) | (refine cla_ (c3) ?_) | (refine IxW.at (by omega) hz' ?_; (conv => whnf)) | (refine br_ (fun hbr => ?_) (fun hbr => ?_))))
    all_goals first | (exfalso; omega) | skip
    all_goals ((refine RetOK.d rfl rfl ?_; conv => whnf); rw [hG])
    all_goals first | (rw [decide_eq_false (show ¬ 0 ≤ a by omega)]; simp; done) | (rw [decide_eq_false (show ¬ z ≤ 719 by omega)]; simp; done) | (rw [decide_eq_true (show 0 ≤ a by omega), decide_eq_true (show z ≤ 719 by omega)]; (try simp_all [inB]); (try (rw [Bool.eq_iff_iff]; simp)); (try omega))
set_option maxHeartbeats 1000000 in
theorem l30Knots_v (ks : List Int) (ms : List TPt) : PC Tryz.prog 162 [.d (.lst (ks.map (D.int .i64))), .d (.lst (ms.map TPt.D))] (.d (.bool (knG none ks && (decide (ks.length = ms.length) && ms.all pntB)))) [] := by
  refine pc_intro ttOk (by kernel_rfl) Tryz.func162 rfl (by kernel_rfl) (by kernel_rfl) (by kernel_rfl) (fun hw => ?_)
  have hL : (ks.map (D.int .i64)).length = ks.length := List.length_map _
  have hL2 : (ms.map TPt.D).length = ms.length := List.length_map _
  have hm : (ks.map (D.int .i64)).length ≤ 9223372036854775807 := hw.1.1
  (conv => whnf)
  refine LoopW.go (α := Nat) (fun k => [(0, .d (.lst (ks.map (D.int .i64)))), (1, .d (.lst (ms.map TPt.D))), (5, .d (.int .i64 k))]) (fun k => [.gone]) (fun k => k ≤ ks.length ∧ knG none ks = knG (pvI ks k) (ks.drop k)) (fun k => ks.length - k) 0 covT_ ?_ (fun k hk => ?_)
  · exact ⟨by omega, rfl⟩
  obtain ⟨hk1, hk2⟩ := hk
  (conv => whnf)
  (refine br_ (fun h2 => ?_) (fun h2 => ?_) <;> (repeat (refine stg_ ?_)))
  · obtain ⟨x, hx⟩ := at_lt' (xs := ks) (k := k) (by omega)
    rw [knG_at hx] at hk2
    rcases Nat.eq_zero_or_pos k with rfl | h0
    · rw [show pvI ks 0 = none from rfl, ltI, Bool.true_and] at hk2
      (repeat' (first | (refine stg_ ?_) | (refine cl_ (l00In_v _ _ _) ?_) | (refine br_ (fun hbr => ?_) (fun hbr => ?_))))
      all_goals first | (exfalso; omega) | ((refine RetOK.d rfl rfl ?_; conv => whnf); simp_all; done) | skip
      all_goals exact NextW.go (0 + 1) covT_ ⟨by omega, by simp_all⟩ (by omega)
    · obtain ⟨p, hp⟩ := at_lt' (xs := ks) (k := k - 1) (by omega)
      have hp' : (ks.map (D.int .i64))[((k : Int) - 1).toNat]? = some (.int .i64 p) := by
        have : ((k : Int) - 1).toNat = k - 1 := by omega
        rw [this, List.getElem?_map, hp]; rfl
      rw [pvI_pos h0 hp, ltI] at hk2
      (repeat' (first | (refine stg_ ?_) | (refine cl_ (l00In_v _ _ _) ?_) | (refine IxW.at (by omega) hp' ?_; (conv => whnf)) | (refine br_ (fun hbr => ?_) (fun hbr => ?_))))
      all_goals first | (exfalso; omega) | ((refine RetOK.d rfl rfl ?_; conv => whnf); simp_all; done) | ((refine RetOK.d rfl rfl ?_; conv => whnf); rw [hk2, decide_eq_false (show ¬ p < x by omega)]; simp; done) | skip
      all_goals exact NextW.go (k + 1) covT_ ⟨by omega, by rw [hk2, decide_eq_true (show p < x by omega)]; simp_all⟩ (by omega)
  · rw [knG_end (by omega)] at hk2
    (repeat' (first | (refine stg_ ?_) | (refine cla_ (l13Points_v ms) ?_) | (refine br_ (fun hbr => ?_) (fun hbr => ?_))))
    all_goals ((refine RetOK.d rfl rfl ?_; conv => whnf); rw [hk2]; first | (simp_all; done) | (rw [decide_eq_true (show ks.length = ms.length by omega)]; simp_all; done) | (rw [decide_eq_false (show ¬ ks.length = ms.length by omega)]; simp_all; done))
theorem l30Delta_v (d : TGlyphDelta) : PC Tryz.prog 92 [.pX d.D] (.d (.bool (gdB d))) [] := by
  refine pc_intro ttOk (by kernel_rfl) Tryz.func92 rfl (by kernel_rfl) (by kernel_rfl) (by kernel_rfl) (fun hw => ?_)
  have hG : gdB d = (inB d.fGlyph 0 39 && ((knG none d.fKnots && (decide (d.fKnots.length = d.fMoves.length) && d.fMoves.all pntB)) && inB d.fAdvance (-262144) 262144)) := by rw [gdB]; simp only [Bool.and_assoc]
  rw [hG]
  have c1 := l00In_v d.fGlyph 0 39
  have c2 := l30Knots_v d.fKnots d.fMoves
  have c3 := l00In_v d.fAdvance (-262144) 262144
  generalize inB d.fGlyph 0 39 = A at *
  generalize (knG none d.fKnots && (decide (d.fKnots.length = d.fMoves.length) && d.fMoves.all pntB)) = B at *
  generalize inB d.fAdvance (-262144) 262144 = C at *
  clear hG
  cases A <;> cases B <;> cases C <;> ((conv => whnf); (repeat' (first | (refine stg_ ?_) | (refine cla_ (c1) ?_) | (refine cla_ (c2) ?_) | (refine cla_ (c3) ?_) | (refine RegD.auto (by kernel_rfl) ?_; conv => whnf) | (refine br_ (fun hbr => ?_) (fun hbr => ?_)))); all_goals ((refine RetOK.d rfl rfl ?_; conv => whnf); rfl))
theorem wfN_v (p : TPeak) : PC Tryz.prog 83 [.d p.D] (.d (.bool (!pkB p))) [] := by
  refine pc_intro ttOk (by kernel_rfl) Tryz.func83 rfl (by kernel_rfl) (by kernel_rfl) (by kernel_rfl) (fun hw => ?_)
  (conv => whnf)
  (repeat' (first | (refine stg_ ?_) | (refine cla_ (ValidPeak_v p) ?_) | (refine br_ (fun hbr => ?_) (fun hbr => ?_))))
  all_goals ((refine RetOK.d rfl rfl ?_; conv => whnf); try rfl)
set_option maxHeartbeats 4000000 in
theorem wellFormed_v (v : TVariation) : PC Tryz.prog 38 [.d v.D] (.d (.bool (wfB v))) [] := by
  refine pc_intro ttOk (by kernel_rfl) Tryz.func38 rfl (by kernel_rfl) (by kernel_rfl) (by kernel_rfl) (fun hw => ?_)
  have hL : (v.fMasters.map TMaster.D).length = v.fMasters.length := List.length_map _
  have hLa : (v.fAxes.map TAxis.D).length = v.fAxes.length := List.length_map _
  have hm : (v.fMasters.map TMaster.D).length ≤ 9223372036854775807 := hw.1.2.1.1
  have c0 := ValidAxes_v v.fAxes
  have hG : wfB v = (axsB v.fAxes && (decide (v.fMasters.length ≤ 8) && v.fMasters.all (maB v.fAxes.length))) := rfl
  cases hB : axsB v.fAxes <;> rw [hB] at c0 hG
  · (conv => whnf)
    (repeat' (first | (refine stg_ ?_) | (refine cla_ (c0) ?_) | (refine br_ (fun hbr => ?_) (fun hbr => ?_))))
    all_goals ((refine RetOK.d rfl rfl ?_; conv => whnf); rw [hG]; rfl)
  by_cases h8 : v.fMasters.length ≤ 8
  rotate_left
  · rw [decide_eq_false h8] at hG
    (conv => whnf)
    (repeat' (first | (refine stg_ ?_) | (refine cla_ (c0) ?_) | (refine br_ (fun hbr => ?_) (fun hbr => ?_))))
    all_goals first | (exfalso; omega) | ((refine RetOK.d rfl rfl ?_; conv => whnf); rw [hG]; rfl)
  rw [decide_eq_true h8, Bool.true_and, Bool.true_and] at hG
  (conv => whnf)
  (repeat' (first | (refine stg_ ?_) | (refine cla_ (c0) ?_) | (refine br_ (fun hbr => ?_) (fun hbr => ?_))))
  all_goals first | (exfalso; omega) | skip
  refine LoopW.go (α := Nat) (fun k => [(1, .pB 1 [] 0), (18, .d (.lst (v.fMasters.map TMaster.D))), (19, .d (.int .i64 (v.fMasters.map TMaster.D).length)), (20, .d (.int .i64 k))]) (fun k => [.gone, .box (.d v.D)]) (fun k => k ≤ v.fMasters.length ∧ wfB v = (v.fMasters.drop k).all (maB v.fAxes.length)) (fun k => v.fMasters.length - k) 0 covT_ ?_ (fun k hk => ?_)
  · exact ⟨by omega, hG⟩
  obtain ⟨hk1, hk2⟩ := hk
  (conv => whnf)
  (refine br_ (fun h2 => ?_) (fun h2 => ?_) <;> (repeat (refine stg_ ?_)))
  · obtain ⟨m, hx⟩ := at_lt' (xs := v.fMasters) (k := k) (by omega)
    rw [drop_at hx, List.all_cons] at hk2
    have hP : m.fPeaks.all pkB = !m.fPeaks.any (fun p => !pkB p) := by rw [List.all_eq_not_any_not]
    have hLp : (m.fPeaks.map TPeak.D).length = m.fPeaks.length := List.length_map _
    have hLd : (m.fDeltas.map TGlyphDelta.D).length = m.fDeltas.length := List.length_map _
    have hany : m.fPeaks.any (fun p => !pkB p) = !(m.fPeaks.all pkB) := by rw [List.all_eq_not_any_not, Bool.not_not]
    have c := ctPeak_v m.fPeaks _ (fun p => !pkB p) wfN_v
    rw [hany] at c
    have hM : maB v.fAxes.length m = (decide (m.fPeaks.length = v.fAxes.length) && (decide (m.fDeltas.length ≤ 20) && (m.fPeaks.all pkB && dsG none m.fDeltas))) := rfl
    rw [hM] at hk2
    cases hpk : m.fPeaks.all pkB <;> rw [hpk] at c hk2
    · (repeat' (first | (refine stg_ ?_) | (refine cla_ (c) ?_) | (refine br_ (fun hbr => ?_) (fun hbr => ?_))))
      all_goals ((refine RetOK.d rfl rfl ?_; conv => whnf); rw [hk2]; simp)
    by_cases hq : m.fPeaks.length = v.fAxes.length ∧ m.fDeltas.length ≤ 20
    rotate_left
    · have hz : (decide (m.fPeaks.length = v.fAxes.length) && decide (m.fDeltas.length ≤ 20)) = false := by
        rw [Bool.and_eq_false_iff, decide_eq_false_iff_not, decide_eq_false_iff_not]; omega
      rw [← Bool.and_assoc, hz] at hk2
      (repeat' (first | (refine stg_ ?_) | (refine cla_ (c) ?_) | (refine br_ (fun hbr => ?_) (fun hbr => ?_))))
      all_goals first | (exfalso; omega) | ((refine RetOK.d rfl rfl ?_; conv => whnf); rw [hk2]; simp)
    rw [decide_eq_true hq.1, decide_eq_true hq.2, Bool.true_and, Bool.true_and, Bool.true_and] at hk2
    (repeat' (first | (refine stg_ ?_) | (refine cla_ (c) ?_) | (refine br_ (fun hbr => ?_) (fun hbr => ?_))))
    all_goals first | (exfalso; omega) | skip
    refine LoopW.go (α := Nat) (fun j => [(1, .pB 1 [] 0), (4, .pB 2 [] 0), (18, .d (.lst (v.fMasters.map TMaster.D))), (19, .d (.int .i64 (v.fMasters.map TMaster.D).length)), (20, .d (.int .i64 k)), (43, .d (.lst (m.fDeltas.map TGlyphDelta.D))), (44, .d (.int .i64 (m.fDeltas.map TGlyphDelta.D).length)), (45, .d (.int .i64 j))]) (fun j => [.gone, .box (.d v.D), .box (.d m.D)]) (fun j => j ≤ m.fDeltas.length ∧ dsG none m.fDeltas = dsG (pv m.fDeltas j) (m.fDeltas.drop j)) (fun j => m.fDeltas.length - j) 0 covT_ ⟨by omega, rfl⟩ (fun j hj => ?_)
    obtain ⟨hj1, hj2⟩ := hj
    (conv => whnf)
    (refine br_ (fun h3 => ?_) (fun h3 => ?_) <;> (repeat (refine stg_ ?_)))
    · obtain ⟨d, hd⟩ := at_lt' (xs := m.fDeltas) (k := j) (by omega)
      rw [dsG_at hd] at hj2
      rcases Nat.eq_zero_or_pos j with rfl | h0
      · rw [pv_zero, ltG, Bool.true_and] at hj2
        (repeat' (first | (refine stg_ ?_) | (refine cla_ (validDelta_v d) ?_) | (refine br_ (fun hbr => ?_) (fun hbr => ?_))))
        all_goals first | (exfalso; omega) | ((refine RetOK.d rfl rfl ?_; conv => whnf); simp_all; done) | skip
        all_goals exact NextW.go (0 + 1) covT_ ⟨by omega, by simp_all⟩ (by omega)
      · obtain ⟨p, hp⟩ := at_lt' (xs := m.fDeltas) (k := j - 1) (by omega)
        have hp' : (m.fDeltas.map TGlyphDelta.D)[((j : Int) - 1).toNat]? = some p.D := by
          have : ((j : Int) - 1).toNat = j - 1 := by omega
          rw [this, List.getElem?_map, hp]; rfl
        rw [pv_pos _ h0, hp, ltG] at hj2
        (repeat' (first | (refine stg_ ?_) | (refine cla_ (validDelta_v d) ?_) | (refine IxW.at (by omega) hp' ?_; (conv => whnf)) | (refine br_ (fun hbr => ?_) (fun hbr => ?_))))
        all_goals first | (exfalso; omega) | ((refine RetOK.d rfl rfl ?_; conv => whnf); simp_all; done) | ((refine RetOK.d rfl rfl ?_; conv => whnf); rw [hk2, hj2, decide_eq_false (show ¬ p.fGlyph < d.fGlyph by omega)]; simp; done) | skip
        all_goals exact NextW.go (j + 1) covT_ ⟨by omega, by rw [hj2, decide_eq_true (show p.fGlyph < d.fGlyph by omega)]; simp_all⟩ (by omega)
    · rw [dsG_end (by omega)] at hj2
      rw [hj2, Bool.true_and] at hk2
      (repeat (refine stg_ ?_))
      exact NextW.go (k + 1) covT_ ⟨by omega, hk2⟩ (by omega)
  · (refine RetOK.d rfl rfl ?_; conv => whnf)
    rw [hk2, List.drop_eq_nil_of_le (by omega)]; rfl
set_option maxHeartbeats 4000000 in
theorem l30Formed_v (v : TVariation) : PC Tryz.prog 44 [.pX v.D] (.d (.bool (wfB v))) [] := by
  refine pc_intro ttOk (by kernel_rfl) Tryz.func44 rfl (by kernel_rfl) (by kernel_rfl) (by kernel_rfl) (fun hw => ?_)
  have hL : (v.fMasters.map TMaster.D).length = v.fMasters.length := List.length_map _
  have hLa : (v.fAxes.map TAxis.D).length = v.fAxes.length := List.length_map _
  have hm : (v.fMasters.map TMaster.D).length ≤ 9223372036854775807 := hw.1.2.1.1
  have c0 := l29Ok_v v.fAxes
  have hG : wfB v = (axsB v.fAxes && (decide (v.fMasters.length ≤ 8) && v.fMasters.all (maB v.fAxes.length))) := rfl
  cases hB : axsB v.fAxes <;> rw [hB] at c0 hG
  · (conv => whnf)
    (repeat' (first | (refine stg_ ?_) | (refine cla_ (c0) ?_) | (refine br_ (fun hbr => ?_) (fun hbr => ?_))))
    all_goals ((refine RetOK.d rfl rfl ?_; conv => whnf); rw [hG]; rfl)
  have hx3 : v.fAxes.length ≤ 3 := by
    simp only [axsB, Bool.and_eq_true, decide_eq_true_eq] at hB
    exact hB.1
  by_cases h8 : v.fMasters.length ≤ 8
  rotate_left
  · rw [decide_eq_false h8] at hG
    (conv => whnf)
    (repeat' (first | (refine stg_ ?_) | (refine cla_ (c0) ?_) | (refine br_ (fun hbr => ?_) (fun hbr => ?_))))
    all_goals first | (exfalso; omega) | ((refine RetOK.d rfl rfl ?_; conv => whnf); rw [hG]; rfl)
  rw [decide_eq_true h8, Bool.true_and, Bool.true_and] at hG
  (conv => whnf)
  (repeat' (first | (refine stg_ ?_) | (refine cla_ (c0) ?_) | (refine br_ (fun hbr => ?_) (fun hbr => ?_))))
  all_goals first | (exfalso; omega) | skip
  refine LoopW.go (α := Nat) (fun k => [(0, .pX v.D), (3, .d (.int .i64 k))]) (fun k => [.gone]) (fun k => k ≤ v.fMasters.length ∧ wfB v = (v.fMasters.drop k).all (maB v.fAxes.length)) (fun k => v.fMasters.length - k) 0 covT_ ?_ (fun k hk => ?_)
  · exact ⟨by omega, hG⟩
  obtain ⟨hk1, hk2⟩ := hk
  (conv => whnf)
  (refine br_ (fun h2 => ?_) (fun h2 => ?_) <;> (repeat (refine stg_ ?_)))
  · obtain ⟨m, hx⟩ := at_lt' (xs := v.fMasters) (k := k) (by omega)
    rw [drop_at hx, List.all_cons] at hk2
    have hLp : (m.fPeaks.map TPeak.D).length = m.fPeaks.length := List.length_map _
    have hLd : (m.fDeltas.map TGlyphDelta.D).length = m.fDeltas.length := List.length_map _
    have hPk : pksB m.fPeaks = (decide (m.fPeaks.length ≤ 3) && m.fPeaks.all pkB) := rfl
    have c := l30Peaks_v m.fPeaks
    rw [hPk] at c
    have hM : maB v.fAxes.length m = (decide (m.fPeaks.length = v.fAxes.length) && (decide (m.fDeltas.length ≤ 20) && (m.fPeaks.all pkB && dsG none m.fDeltas))) := rfl
    rw [hM] at hk2
    cases hpk : m.fPeaks.all pkB <;> rw [hpk] at c hk2
    · rw [Bool.and_false] at c
      (repeat' (first | (refine stg_ ?_) | (refine cla_ (c) ?_) | (refine br_ (fun hbr => ?_) (fun hbr => ?_))))
      all_goals ((refine RetOK.d rfl rfl ?_; conv => whnf); rw [hk2]; simp)
    rw [Bool.and_true] at c
    by_cases hq : m.fPeaks.length = v.fAxes.length ∧ m.fDeltas.length ≤ 20
    rotate_left
    · have hz : (decide (m.fPeaks.length = v.fAxes.length) && decide (m.fDeltas.length ≤ 20)) = false := by
        rw [Bool.and_eq_false_iff, decide_eq_false_iff_not, decide_eq_false_iff_not]; omega
      rw [← Bool.and_assoc, hz] at hk2
      (repeat' (first | (refine stg_ ?_) | (refine cla_ (c) ?_) | (refine br_ (fun hbr => ?_) (fun hbr => ?_))))
      all_goals first | (exfalso; omega) | ((refine RetOK.d rfl rfl ?_; conv => whnf); rw [hk2]; simp)
    rw [decide_eq_true hq.1, decide_eq_true hq.2, Bool.true_and, Bool.true_and, Bool.true_and] at hk2
    rw [decide_eq_true (show m.fPeaks.length ≤ 3 by omega)] at c
    (repeat' (first | (refine stg_ ?_) | (refine cla_ (c) ?_) | (refine br_ (fun hbr => ?_) (fun hbr => ?_))))
    all_goals first | (exfalso; omega) | skip
    refine LoopW.go (α := Nat) (fun j => [(0, .pX v.D), (3, .d (.int .i64 k)), (4, .pX m.D), (5, .d (.int .i64 j))]) (fun j => [.gone]) (fun j => j ≤ m.fDeltas.length ∧ dsG none m.fDeltas = dsG (pv m.fDeltas j) (m.fDeltas.drop j)) (fun j => m.fDeltas.length - j) 0 covT_ ⟨by omega, rfl⟩ (fun j hj => ?_)
    obtain ⟨hj1, hj2⟩ := hj
    (conv => whnf)
    (refine br_ (fun h3 => ?_) (fun h3 => ?_) <;> (repeat (refine stg_ ?_)))
    · obtain ⟨d, hd⟩ := at_lt' (xs := m.fDeltas) (k := j) (by omega)
      rw [dsG_at hd] at hj2
      rcases Nat.eq_zero_or_pos j with rfl | h0
      · rw [pv_zero, ltG, Bool.true_and] at hj2
        (repeat' (first | (refine stg_ ?_) | (refine cla_ (l30Delta_v d) ?_) | (refine br_ (fun hbr => ?_) (fun hbr => ?_))))
        all_goals first | (exfalso; omega) | ((refine RetOK.d rfl rfl ?_; conv => whnf); simp_all; done) | skip
        all_goals exact NextW.go (0 + 1) covT_ ⟨by omega, by simp_all⟩ (by omega)
      · obtain ⟨p, hp⟩ := at_lt' (xs := m.fDeltas) (k := j - 1) (by omega)
        have hp' : (m.fDeltas.map TGlyphDelta.D)[((j : Int) - 1).toNat]? = some p.D := by
          have : ((j : Int) - 1).toNat = j - 1 := by omega
          rw [this, List.getElem?_map, hp]; rfl
        rw [pv_pos _ h0, hp, ltG] at hj2
        (repeat' (first | (refine stg_ ?_) | (refine cla_ (l30Delta_v d) ?_) | (refine IxW.at (by omega) hp' ?_; (conv => whnf)) | (refine br_ (fun hbr => ?_) (fun hbr => ?_))))
        all_goals first | (exfalso; omega) | ((refine RetOK.d rfl rfl ?_; conv => whnf); simp_all; done) | ((refine RetOK.d rfl rfl ?_; conv => whnf); rw [hk2, hj2, decide_eq_false (show ¬ p.fGlyph < d.fGlyph by omega)]; simp; done) | skip
        all_goals exact NextW.go (j + 1) covT_ ⟨by omega, by rw [hj2, decide_eq_true (show p.fGlyph < d.fGlyph by omega)]; simp_all⟩ (by omega)
    · rw [dsG_end (by omega)] at hj2
      rw [hj2, Bool.true_and] at hk2
      (repeat (refine stg_ ?_))
      exact NextW.go (k + 1) covT_ ⟨by omega, hk2⟩ (by omega)
  · (refine RetOK.d rfl rfl ?_; conv => whnf)
    rw [hk2, List.drop_eq_nil_of_le (by omega)]; rfl
theorem isNaNi_v (n : Int) : PC Tryz.prog 167 [.d (.int .i64 n)] (.d (.bool false)) [] := by
  refine pc_intro ttOk (by kernel_rfl) Tryz.func167 rfl (by kernel_rfl) (by kernel_rfl) (by kernel_rfl) (fun hw => ?_)
  (conv => whnf)
  (repeat' (first | (refine stg_ ?_) | fail | (refine br_ (fun hbr => ?_) (fun hbr => ?_))))
  all_goals ((refine RetOK.d rfl rfl ?_; conv => whnf); simp)
theorem isNaNs_v (n : Int) : PC Tryz.prog 231 [.d (.int .i64 n)] (.d (.bool false)) [] := by
  refine pc_intro ttOk (by kernel_rfl) Tryz.func231 rfl (by kernel_rfl) (by kernel_rfl) (by kernel_rfl) (fun hw => ?_)
  (conv => whnf)
  (repeat' (first | (refine stg_ ?_) | fail | (refine br_ (fun hbr => ?_) (fun hbr => ?_))))
  all_goals ((refine RetOK.d rfl rfl ?_; conv => whnf); simp)
theorem less_v (a b : Int) : PC Tryz.prog 230 [.d (.int .i64 a), .d (.int .i64 b)] (.d (.bool (decide (a < b)))) [] := by
  refine pc_intro ttOk (by kernel_rfl) Tryz.func230 rfl (by kernel_rfl) (by kernel_rfl) (by kernel_rfl) (fun hw => ?_)
  (conv => whnf)
  (repeat' (first | (refine stg_ ?_) | (refine cla_ (isNaNi_v _) ?_) | (refine br_ (fun hbr => ?_) (fun hbr => ?_))))
  all_goals ((refine RetOK.d rfl rfl ?_; conv => whnf); try simp_all)
set_option maxHeartbeats 2000000 in
theorem bsr_v (xs : List Int) (b : Int) (hs : srt xs) (hl : xs.length ≤ 1048576) : PC Tryz.prog 182 [.d (.lst (xs.map (D.int .i64))), .d (.int .i64 b)] (.tup [.d (.int .i64 (cl xs b : Nat)), .d (.bool (fd xs b))]) [] := by
  refine pc_intro ttOk (by kernel_rfl) Tryz.func182 rfl (by kernel_rfl) (by kernel_rfl) (by kernel_rfl) (fun hw => ?_)
  have hL : (xs.map (D.int .i64)).length = xs.length := List.length_map _
  have hm : (xs.map (D.int .i64)).length ≤ 9223372036854775807 := hw.1.1
  have hc := cl_le xs b
  (conv => whnf)
  (repeat (refine stg_ ?_))
  refine LoopW.go (α := Nat × Nat) (fun p => [(0, .d (.lst (xs.map (D.int .i64)))), (1, .d (.int .i64 b)), (6, .d (.int .i64 (xs.map (D.int .i64)).length)), (7, .d (.int .i64 (p.1 : Nat))), (8, .d (.int .i64 (p.2 : Nat)))]) (fun _ => [.gone]) (fun p => p.1 ≤ cl xs b ∧ cl xs b ≤ p.2 ∧ p.2 ≤ xs.length) (fun p => p.2 - p.1) (0, xs.length) (Weak.cov ⟨rfl, rfl, rfl, rfl, by rw [← hL]; rfl, trivial⟩ ⟨trivial, trivial⟩ rfl) ⟨by simp, hc, Nat.le_refl _⟩ ?_
  rintro ⟨i, j⟩ ⟨k1, k2, k3⟩
  dsimp only at k1 k2 k3 ⊢
  (conv => whnf)
  (refine br_ (fun h1 => ?_) (fun h1 => ?_))
  · (repeat (refine stg_ ?_))
    refine ShW.at (q := 2) (by rfl) (by omega) ?_
    (conv => whnf)
    have hq : ((i : Int) + (j : Int)) / 2 = (((i + j) / 2 : Nat) : Int) := by omega
    rw [hq]
    generalize hh : (i + j) / 2 = m at *
    obtain ⟨y, hy⟩ := at_lt' (xs := xs) (k := m) (by omega)
    have c1 := less_v y b
    (repeat (refine stg_ ?_))
    (refine cla_ (c1) ?_)
    (repeat (refine stg_ ?_))
    (refine br_ (fun h2 => ?_) (fun h2 => ?_))
    · have hlt : m < cl xs b := by
        apply Classical.byContradiction
        intro h
        have := cl_ge (b := b) hs (by omega) hy
        omega
      (repeat (refine stg_ ?_))
      refine NextW.go (m + 1, j) covT_ ⟨by simp only; omega, by simp only; omega, by simp only; omega⟩ (by show j - (m + 1) < j - i; omega)
    · have hge : cl xs b ≤ m := by
        apply Classical.byContradiction
        intro h
        have := cl_lt (b := b) (by omega) hy
        omega
      (repeat (refine stg_ ?_))
      refine NextW.go (i, m) covT_ ⟨by simp only; omega, by simp only; omega, by simp only; omega⟩ (by show m - i < j - i; omega)
  · obtain rfl : i = cl xs b := by omega
    rcases Nat.lt_or_ge (cl xs b) xs.length with hlt | hge
    · obtain ⟨y, hy⟩ := at_lt' (xs := xs) (k := cl xs b) hlt
      have hf : fd xs b = decide (y = b) := by
        rw [fd, hy]
        by_cases h : y = b
        · subst h; simp
        · rw [decide_eq_false h]; simp [h]
      rw [hf]
      (repeat' (first | (refine stg_ ?_) | (refine cla_ (isNaNs_v _) ?_) | (refine br_ (fun hbr => ?_) (fun hbr => ?_))))
      all_goals first | (exfalso; omega) | skip
      all_goals ((refine RetOK.t rfl ?_; (repeat' ((conv => whnf); (first | done | (refine ⟨_, _, rfl, ⟨rfl, ?_⟩, ?_⟩) | fail))); (all_goals (conv => whnf))); (all_goals first | rfl | (simp_all; done) | skip))
    · have hf : fd xs b = false := by
        rw [fd, List.getElem?_eq_none hge]; rfl
      rw [hf]
      (repeat' (first | (refine stg_ ?_) | (refine cla_ (isNaNs_v _) ?_) | (refine br_ (fun hbr => ?_) (fun hbr => ?_))))
      all_goals first | (exfalso; omega) | skip
      all_goals ((refine RetOK.t rfl ?_; (repeat' ((conv => whnf); (first | done | (refine ⟨_, _, rfl, ⟨rfl, ?_⟩, ?_⟩) | fail))); (all_goals (conv => whnf))); (all_goals first | rfl | (simp_all; done) | skip))
theorem prodb (u v w : Int) (h1 : 0 < u) (h2 : u < w) (h3 : w ≤ 524288) (h4 : -524288 ≤ v) (h5 : v ≤ 524288) : (-274877906944 ≤ u * v ∧ u * v ≤ 274877906944) ∧ 0 < w ∧ -524288 ≤ divR (u * v) w ∧ divR (u * v) w ≤ 524288 := by
  have e3 : u * v ≤ u * 524288 := Int.mul_le_mul_of_nonneg_left h5 (by omega)
  have e4 : u * (-524288) ≤ u * v := Int.mul_le_mul_of_nonneg_left h4 (by omega)
  refine ⟨by omega, by omega, le_divR (by omega) (by omega), divR_le (by omega) (by omega)⟩
theorem inferred_v (x a b c d : Int) (hb : (-262144 ≤ x ∧ x ≤ 262144) ∧ (-262144 ≤ a ∧ a ≤ 262144) ∧ (-262144 ≤ b ∧ b ≤ 262144) ∧ (-262144 ≤ c ∧ c ≤ 262144) ∧ -262144 ≤ d ∧ d ≤ 262144) : PC Tryz.prog 183 [.d (.int .i64 x), .d (.int .i64 a), .d (.int .i64 b), .d (.int .i64 c), .d (.int .i64 d)] (.d (.int .i64 (bt x a b c d))) [] := by
  refine pc_intro ttOk (by kernel_rfl) Tryz.func183 rfl (by kernel_rfl) (by kernel_rfl) (by kernel_rfl) (fun hw => ?_)
  obtain ⟨b1, b2, b3, b4, b5⟩ := hb
  by_cases hab : b < a
  · rw [bt, if_pos hab]
    have d1 := DivRound_v ((x - b) * (c - d)) (a - b)
    by_cases h1 : b = a
    · by_cases h2 : d = c
      · rw [bt0, if_pos h1, if_pos h2]
        (conv => whnf)
        (repeat' (first | (refine stg_ ?_) | fail | (refine br_ (fun hbr => ?_) (fun hbr => ?_))))
        all_goals first | (exfalso; omega) | ((refine RetOK.d rfl rfl ?_; conv => whnf); done) | ((refine RetOK.d rfl rfl ?_; conv => whnf); congr 1)
      · rw [bt0, if_pos h1, if_neg h2]
        (conv => whnf)
        (repeat' (first | (refine stg_ ?_) | fail | (refine br_ (fun hbr => ?_) (fun hbr => ?_))))
        all_goals first | (exfalso; omega) | ((refine RetOK.d rfl rfl ?_; conv => whnf); done)
    by_cases h2 : x ≤ b
    · rw [bt0, if_neg h1, if_pos h2]
      (conv => whnf)
      (repeat' (first | (refine stg_ ?_) | fail | (refine br_ (fun hbr => ?_) (fun hbr => ?_))))
      all_goals first | (exfalso; omega) | ((refine RetOK.d rfl rfl ?_; conv => whnf); done)
    by_cases h3 : a ≤ x
    · rw [bt0, if_neg h1, if_neg h2, if_pos h3]
      (conv => whnf)
      (repeat' (first | (refine stg_ ?_) | fail | (refine br_ (fun hbr => ?_) (fun hbr => ?_))))
      all_goals first | (exfalso; omega) | ((refine RetOK.d rfl rfl ?_; conv => whnf); done)
    · rw [bt0, if_neg h1, if_neg h2, if_neg h3]
      obtain ⟨e1, e2, e3, e4⟩ := prodb (x - b) (c - d) (a - b) (by omega) (by omega) (by omega) (by omega) (by omega)
      (conv => whnf)
      (repeat' (first | (refine stg_ ?_) | (refine cla_ (d1) ?_) | (refine br_ (fun hbr => ?_) (fun hbr => ?_))))
      all_goals first | (exfalso; omega) | ((refine RetOK.d rfl rfl ?_; conv => whnf); done)
  · rw [bt, if_neg hab]
    have d1 := DivRound_v ((x - a) * (d - c)) (b - a)
    by_cases h1 : a = b
    · by_cases h2 : c = d
      · rw [bt0, if_pos h1, if_pos h2]
        (conv => whnf)
        (repeat' (first | (refine stg_ ?_) | fail | (refine br_ (fun hbr => ?_) (fun hbr => ?_))))
        all_goals first | (exfalso; omega) | ((refine RetOK.d rfl rfl ?_; conv => whnf); done) | ((refine RetOK.d rfl rfl ?_; conv => whnf); congr 1)
      · rw [bt0, if_pos h1, if_neg h2]
        (conv => whnf)
        (repeat' (first | (refine stg_ ?_) | fail | (refine br_ (fun hbr => ?_) (fun hbr => ?_))))
        all_goals first | (exfalso; omega) | ((refine RetOK.d rfl rfl ?_; conv => whnf); done)
    by_cases h2 : x ≤ a
    · rw [bt0, if_neg h1, if_pos h2]
      (conv => whnf)
      (repeat' (first | (refine stg_ ?_) | fail | (refine br_ (fun hbr => ?_) (fun hbr => ?_))))
      all_goals first | (exfalso; omega) | ((refine RetOK.d rfl rfl ?_; conv => whnf); done)
    by_cases h3 : b ≤ x
    · rw [bt0, if_neg h1, if_neg h2, if_pos h3]
      (conv => whnf)
      (repeat' (first | (refine stg_ ?_) | fail | (refine br_ (fun hbr => ?_) (fun hbr => ?_))))
      all_goals first | (exfalso; omega) | ((refine RetOK.d rfl rfl ?_; conv => whnf); done)
    · rw [bt0, if_neg h1, if_neg h2, if_neg h3]
      obtain ⟨e1, e2, e3, e4⟩ := prodb (x - a) (d - c) (b - a) (by omega) (by omega) (by omega) (by omega) (by omega)
      (conv => whnf)
      (repeat' (first | (refine stg_ ?_) | (refine cla_ (d1) ?_) | (refine br_ (fun hbr => ?_) (fun hbr => ?_))))
      all_goals first | (exfalso; omega) | ((refine RetOK.d rfl rfl ?_; conv => whnf); done)
set_option maxHeartbeats 1000000 in
theorem l30Between_v (x a b c d : Int) (hb : (-262144 ≤ x ∧ x ≤ 262144) ∧ (-262144 ≤ a ∧ a ≤ 262144) ∧ (-262144 ≤ b ∧ b ≤ 262144) ∧ (-262144 ≤ c ∧ c ≤ 262144) ∧ -262144 ≤ d ∧ d ≤ 262144) : PC Tryz.prog 225 [.d (.int .i64 x), .d (.int .i64 a), .d (.int .i64 b), .d (.int .i64 c), .d (.int .i64 d)] (.d (.int .i64 (bt x a b c d))) [] := by
  refine pc_intro ttOk (by kernel_rfl) Tryz.func225 rfl (by kernel_rfl) (by kernel_rfl) (by kernel_rfl) (fun hw => ?_)
  obtain ⟨b1, b2, b3, b4, b5⟩ := hb
  by_cases hab : b < a
  · rw [bt, if_pos hab]
    have d1 := specDivRound_v ((x - b) * (c - d)) (a - b)
    by_cases h1 : b = a
    · by_cases h2 : d = c
      · rw [bt0, if_pos h1, if_pos h2]
        (conv => whnf)
        (repeat' (first | (refine stg_ ?_) | fail | (refine br_ (fun hbr => ?_) (fun hbr => ?_))))
        all_goals first | (exfalso; omega) | ((refine RetOK.d rfl rfl ?_; conv => whnf); done) | ((refine RetOK.d rfl rfl ?_; conv => whnf); congr 1)
      · rw [bt0, if_pos h1, if_neg h2]
        (conv => whnf)
        (repeat' (first | (refine stg_ ?_) | fail | (refine br_ (fun hbr => ?_) (fun hbr => ?_))))
        all_goals first | (exfalso; omega) | ((refine RetOK.d rfl rfl ?_; conv => whnf); done)
    by_cases h2 : x ≤ b
    · rw [bt0, if_neg h1, if_pos h2]
      (conv => whnf)
      (repeat' (first | (refine stg_ ?_) | fail | (refine br_ (fun hbr => ?_) (fun hbr => ?_))))
      all_goals first | (exfalso; omega) | ((refine RetOK.d rfl rfl ?_; conv => whnf); done)
    by_cases h3 : a ≤ x
    · rw [bt0, if_neg h1, if_neg h2, if_pos h3]
      (conv => whnf)
      (repeat' (first | (refine stg_ ?_) | fail | (refine br_ (fun hbr => ?_) (fun hbr => ?_))))
      all_goals first | (exfalso; omega) | ((refine RetOK.d rfl rfl ?_; conv => whnf); done)
    · rw [bt0, if_neg h1, if_neg h2, if_neg h3]
      obtain ⟨e1, e2, e3, e4⟩ := prodb (x - b) (c - d) (a - b) (by omega) (by omega) (by omega) (by omega) (by omega)
      (conv => whnf)
      (repeat' (first | (refine stg_ ?_) | (refine cla_ (d1) ?_) | (refine br_ (fun hbr => ?_) (fun hbr => ?_))))
      all_goals first | (exfalso; omega) | ((refine RetOK.d rfl rfl ?_; conv => whnf); done)
  · rw [bt, if_neg hab]
    have d1 := specDivRound_v ((x - a) * (d - c)) (b - a)
    by_cases h1 : a = b
    · by_cases h2 : c = d
      · rw [bt0, if_pos h1, if_pos h2]
        (conv => whnf)
        (repeat' (first | (refine stg_ ?_) | fail | (refine br_ (fun hbr => ?_) (fun hbr => ?_))))
        all_goals first | (exfalso; omega) | ((refine RetOK.d rfl rfl ?_; conv => whnf); done) | ((refine RetOK.d rfl rfl ?_; conv => whnf); congr 1)
      · rw [bt0, if_pos h1, if_neg h2]
        (conv => whnf)
        (repeat' (first | (refine stg_ ?_) | fail | (refine br_ (fun hbr => ?_) (fun hbr => ?_))))
        all_goals first | (exfalso; omega) | ((refine RetOK.d rfl rfl ?_; conv => whnf); done)
    by_cases h2 : x ≤ a
    · rw [bt0, if_neg h1, if_pos h2]
      (conv => whnf)
      (repeat' (first | (refine stg_ ?_) | fail | (refine br_ (fun hbr => ?_) (fun hbr => ?_))))
      all_goals first | (exfalso; omega) | ((refine RetOK.d rfl rfl ?_; conv => whnf); done)
    by_cases h3 : b ≤ x
    · rw [bt0, if_neg h1, if_neg h2, if_pos h3]
      (conv => whnf)
      (repeat' (first | (refine stg_ ?_) | fail | (refine br_ (fun hbr => ?_) (fun hbr => ?_))))
      all_goals first | (exfalso; omega) | ((refine RetOK.d rfl rfl ?_; conv => whnf); done)
    · rw [bt0, if_neg h1, if_neg h2, if_neg h3]
      obtain ⟨e1, e2, e3, e4⟩ := prodb (x - a) (d - c) (b - a) (by omega) (by omega) (by omega) (by omega) (by omega)
      (conv => whnf)
      (repeat' (first | (refine stg_ ?_) | (refine cla_ (d1) ?_) | (refine br_ (fun hbr => ?_) (fun hbr => ?_))))
      all_goals first | (exfalso; omega) | ((refine RetOK.d rfl rfl ?_; conv => whnf); done)
theorem knotCount_v (o : TOutline) (ho : outB o = true) : PC Tryz.prog 40 [.d o.D] (.d (.int .i64 (cnK o.fLoops : Nat))) [] := by
  refine pc_intro ttOk (by kernel_rfl) Tryz.func40 rfl (by kernel_rfl) (by kernel_rfl) (by kernel_rfl) (fun hw => ?_)
  obtain ⟨ho1, ho2⟩ := out_in ho
  have hL : (o.fLoops.map TLoop.D).length = o.fLoops.length := List.length_map _
  have hC := cnK_le ho2
  (conv => whnf)
  (repeat (refine stg_ ?_))
  refine LoopW.go (α := Nat) (fun k => [(3, .d (.int .i64 (cnK (o.fLoops.take k) : Nat))), (7, .d (.lst (o.fLoops.map TLoop.D))), (8, .d (.int .i64 (o.fLoops.map TLoop.D).length)), (9, .d (.int .i64 k))]) (fun _ => [.gone]) (fun k => k ≤ o.fLoops.length) (fun k => o.fLoops.length - k) 0 covT_ (by omega) (fun k hk => ?_)
  have hT := cnK_take o.fLoops k
  (conv => whnf)
  (refine br_ (fun h1 => ?_) (fun h1 => ?_))
  · obtain ⟨l, hl⟩ := at_lt' (xs := o.fLoops) (k := k) (by omega)
    have hS : cnK (o.fLoops.take (k + 1)) = cnK (o.fLoops.take k) + l.fKnots.length := by rw [take_snoc_get hl, cnK_snoc]
    have hLk : (l.fKnots.map TKnot.D).length = l.fKnots.length := List.length_map _
    have hT2 := cnK_take o.fLoops (k + 1)
    (repeat (refine stg_ ?_))
    refine NextW.go (k + 1) (Weak.cov ⟨?_, rfl, rfl, rfl, trivial⟩ ⟨trivial, trivial⟩ rfl) (by omega) (by omega)
    rw [hS, ← hLk]; rfl
  · (repeat (refine stg_ ?_))
    (refine RetOK.d rfl rfl ?_; conv => whnf)
    rw [List.take_of_length_le (by omega)]
theorem l30Count_v (o : TOutline) (ho : outB o = true) : PC Tryz.prog 77 [.pX o.D] (.d (.int .i64 (cnK o.fLoops : Nat))) [] := by
  refine pc_intro ttOk (by kernel_rfl) Tryz.func77 rfl (by kernel_rfl) (by kernel_rfl) (by kernel_rfl) (fun hw => ?_)
  obtain ⟨ho1, ho2⟩ := out_in ho
  have hL : (o.fLoops.map TLoop.D).length = o.fLoops.length := List.length_map _
  have hC := cnK_le ho2
  (conv => whnf)
  (repeat (refine stg_ ?_))
  refine LoopW.go (α := Nat) (fun k => [(0, .pX o.D), (3, .d (.int .i64 (cnK (o.fLoops.take k) : Nat))), (4, .d (.int .i64 k))]) (fun _ => [.gone]) (fun k => k ≤ o.fLoops.length) (fun k => o.fLoops.length - k) 0 covT_ (by omega) (fun k hk => ?_)
  have hT := cnK_take o.fLoops k
  (conv => whnf)
  (refine br_ (fun h1 => ?_) (fun h1 => ?_))
  · obtain ⟨l, hl⟩ := at_lt' (xs := o.fLoops) (k := k) (by omega)
    have hS : cnK (o.fLoops.take (k + 1)) = cnK (o.fLoops.take k) + l.fKnots.length := by rw [take_snoc_get hl, cnK_snoc]
    have hLk : (l.fKnots.map TKnot.D).length = l.fKnots.length := List.length_map _
    have hT2 := cnK_take o.fLoops (k + 1)
    (repeat (refine stg_ ?_))
    refine NextW.go (k + 1) (Weak.cov ⟨rfl, ?_, rfl, trivial⟩ ⟨trivial, trivial⟩ rfl) (by omega) (by omega)
    rw [hS, ← hLk]; rfl
  · (repeat (refine stg_ ?_))
    (refine RetOK.d rfl rfl ?_; conv => whnf)
    rw [List.take_of_length_le (by omega)]
def trInf : OT :=
  (.q 0 (.q 1 (.q 2 (.q 3 (.q 4 (.q 5 (.q 6 (.q 7 (.q 8 (.q 9 (.q 10 (.q 11 (.q 13 (.q 14 (.q 15 (.q 17 (.alt 12 (.alt 16 (.q 18 (.q 19 (.q 20 (.alt 21 (.alt 22 (.alt 23 (.alt 24 (.alt 25 .done .nil)
  .nil) .nil) (.alt 23 (.alt 22 (.alt 24 (.alt 25 .done .nil) .nil) .nil) .nil)) (.alt 22 (.alt 21 (.alt 23 (.alt 24 (.alt 25 .done .nil) .nil) .nil) (.alt 23 (.alt 21 (.alt 24 (.alt 25 .done .nil)
  .nil) (.alt 24 (.q 21 (.alt 25 .done .nil)) .nil)) .nil)) (.alt 23 (.alt 21 (.alt 22 (.alt 24 (.alt 25 .done .nil) .nil) .nil) (.alt 22 (.alt 21 (.alt 24 (.alt 25 .done .nil) .nil) (.alt 24 (.q 21
  (.alt 25 .done .nil)) .nil)) .nil)) .nil)))))) (.alt 22 (.alt 16 (.q 18 (.q 19 (.q 20 (.alt 21 (.alt 23 (.alt 24 (.alt 25 .done .nil) .nil) .nil) (.alt 23 (.alt 21 (.alt 24 (.alt 25 .done .nil) .nil)
  (.alt 24 (.q 21 (.alt 25 .done .nil)) .nil)) .nil))))) (.alt 23 (.alt 16 (.q 18 (.q 19 (.q 20 (.alt 21 (.alt 24 (.alt 25 .done .nil) .nil) (.alt 24 (.q 21 (.alt 25 .done .nil)) .nil))))) (.alt 24 (.q
  16 (.q 18 (.q 19 (.q 20 (.q 21 (.alt 25 .done .nil)))))) .nil)) .nil)) (.alt 23 (.alt 16 (.q 18 (.q 19 (.q 20 (.alt 21 (.alt 22 (.alt 24 (.alt 25 .done .nil) .nil) .nil) (.alt 22 (.alt 21 (.alt 24
  (.alt 25 .done .nil) .nil) (.alt 24 (.q 21 (.alt 25 .done .nil)) .nil)) .nil))))) (.alt 22 (.alt 16 (.q 18 (.q 19 (.q 20 (.alt 21 (.alt 24 (.alt 25 .done .nil) .nil) (.alt 24 (.q 21 (.alt 25 .done
  .nil)) .nil))))) (.alt 24 (.q 16 (.q 18 (.q 19 (.q 20 (.q 21 (.alt 25 .done .nil)))))) .nil)) .nil)) .nil))) (.alt 16 (.q 18 (.alt 12 (.q 19 (.q 20 (.alt 21 (.alt 22 (.alt 23 (.alt 24 (.alt 25 .done
  .nil) .nil) .nil) (.alt 23 (.alt 22 (.alt 24 (.alt 25 .done .nil) .nil) .nil) .nil)) (.alt 22 (.alt 21 (.alt 23 (.alt 24 (.alt 25 .done .nil) .nil) .nil) (.alt 23 (.alt 21 (.alt 24 (.alt 25 .done
  .nil) .nil) (.alt 24 (.q 21 (.alt 25 .done .nil)) .nil)) .nil)) (.alt 23 (.alt 21 (.alt 22 (.alt 24 (.alt 25 .done .nil) .nil) .nil) (.alt 22 (.alt 21 (.alt 24 (.alt 25 .done .nil) .nil) (.alt 24 (.q
  21 (.alt 25 .done .nil)) .nil)) .nil)) .nil))))) (.alt 22 (.alt 12 (.q 19 (.q 20 (.alt 21 (.alt 23 (.alt 24 (.alt 25 .done .nil) .nil) .nil) (.alt 23 (.alt 21 (.alt 24 (.alt 25 .done .nil) .nil) (.alt
  24 (.q 21 (.alt 25 .done .nil)) .nil)) .nil)))) (.alt 23 (.alt 12 (.q 19 (.q 20 (.alt 21 (.alt 24 (.alt 25 .done .nil) .nil) (.alt 24 (.q 21 (.alt 25 .done .nil)) .nil)))) (.alt 24 (.q 12 (.q 19 (.q
  20 (.q 21 (.alt 25 .done .nil))))) .nil)) .nil)) (.alt 23 (.alt 12 (.q 19 (.q 20 (.alt 21 (.alt 22 (.alt 24 (.alt 25 .done .nil) .nil) .nil) (.alt 22 (.alt 21 (.alt 24 (.alt 25 .done .nil) .nil) (.alt
  24 (.q 21 (.alt 25 .done .nil)) .nil)) .nil)))) (.alt 22 (.alt 12 (.q 19 (.q 20 (.alt 21 (.alt 24 (.alt 25 .done .nil) .nil) (.alt 24 (.q 21 (.alt 25 .done .nil)) .nil)))) (.alt 24 (.q 12 (.q 19 (.q
  20 (.q 21 (.alt 25 .done .nil))))) .nil)) .nil)) .nil)))) (.alt 22 (.alt 12 (.alt 16 (.q 18 (.q 19 (.q 20 (.alt 21 (.alt 23 (.alt 24 (.alt 25 .done .nil) .nil) .nil) (.alt 23 (.alt 21 (.alt 24 (.alt
  25 .done .nil) .nil) (.alt 24 (.q 21 (.alt 25 .done .nil)) .nil)) .nil))))) (.alt 23 (.alt 16 (.q 18 (.q 19 (.q 20 (.alt 21 (.alt 24 (.alt 25 .done .nil) .nil) (.alt 24 (.q 21 (.alt 25 .done .nil))
  .nil))))) (.alt 24 (.q 16 (.q 18 (.q 19 (.q 20 (.q 21 (.alt 25 .done .nil)))))) .nil)) .nil)) (.alt 16 (.q 18 (.alt 12 (.q 19 (.q 20 (.alt 21 (.alt 23 (.alt 24 (.alt 25 .done .nil) .nil) .nil) (.alt
  23 (.alt 21 (.alt 24 (.alt 25 .done .nil) .nil) (.alt 24 (.q 21 (.alt 25 .done .nil)) .nil)) .nil)))) (.alt 23 (.alt 12 (.q 19 (.q 20 (.alt 21 (.alt 24 (.alt 25 .done .nil) .nil) (.alt 24 (.q 21 (.alt
  25 .done .nil)) .nil)))) (.alt 24 (.q 12 (.q 19 (.q 20 (.q 21 (.alt 25 .done .nil))))) .nil)) .nil))) (.alt 23 (.alt 12 (.alt 16 (.q 18 (.q 19 (.q 20 (.alt 21 (.alt 24 (.alt 25 .done .nil) .nil) (.alt
  24 (.q 21 (.alt 25 .done .nil)) .nil))))) (.alt 24 (.q 16 (.q 18 (.q 19 (.q 20 (.q 21 (.alt 25 .done .nil)))))) .nil)) (.alt 16 (.q 18 (.alt 12 (.q 19 (.q 20 (.alt 21 (.alt 24 (.alt 25 .done .nil)
  .nil) (.alt 24 (.q 21 (.alt 25 .done .nil)) .nil)))) (.alt 24 (.q 12 (.q 19 (.q 20 (.q 21 (.alt 25 .done .nil))))) .nil))) (.alt 24 (.q 12 (.q 16 (.q 18 (.q 19 (.q 20 (.q 21 (.alt 25 .done .nil)))))))
  .nil))) .nil))) (.alt 23 (.alt 12 (.alt 16 (.q 18 (.q 19 (.q 20 (.alt 21 (.alt 22 (.alt 24 (.alt 25 .done .nil) .nil) .nil) (.alt 22 (.alt 21 (.alt 24 (.alt 25 .done .nil) .nil) (.alt 24 (.q 21 (.alt
  25 .done .nil)) .nil)) .nil))))) (.alt 22 (.alt 16 (.q 18 (.q 19 (.q 20 (.alt 21 (.alt 24 (.alt 25 .done .nil) .nil) (.alt 24 (.q 21 (.alt 25 .done .nil)) .nil))))) (.alt 24 (.q 16 (.q 18 (.q 19 (.q
  20 (.q 21 (.alt 25 .done .nil)))))) .nil)) .nil)) (.alt 16 (.q 18 (.alt 12 (.q 19 (.q 20 (.alt 21 (.alt 22 (.alt 24 (.alt 25 .done .nil) .nil) .nil) (.alt 22 (.alt 21 (.alt 24 (.alt 25 .done .nil)
  .nil) (.alt 24 (.q 21 (.alt 25 .done .nil)) .nil)) .nil)))) (.alt 22 (.alt 12 (.q 19 (.q 20 (.alt 21 (.alt 24 (.alt 25 .done .nil) .nil) (.alt 24 (.q 21 (.alt 25 .done .nil)) .nil)))) (.alt 24 (.q 12
  (.q 19 (.q 20 (.q 21 (.alt 25 .done .nil))))) .nil)) .nil))) (.alt 22 (.alt 12 (.alt 16 (.q 18 (.q 19 (.q 20 (.alt 21 (.alt 24 (.alt 25 .done .nil) .nil) (.alt 24 (.q 21 (.alt 25 .done .nil))
  .nil))))) (.alt 24 (.q 16 (.q 18 (.q 19 (.q 20 (.q 21 (.alt 25 .done .nil)))))) .nil)) (.alt 16 (.q 18 (.alt 12 (.q 19 (.q 20 (.alt 21 (.alt 24 (.alt 25 .done .nil) .nil) (.alt 24 (.q 21 (.alt 25
  .done .nil)) .nil)))) (.alt 24 (.q 12 (.q 19 (.q 20 (.q 21 (.alt 25 .done .nil))))) .nil))) (.alt 24 (.q 12 (.q 16 (.q 18 (.q 19 (.q 20 (.q 21 (.alt 25 .done .nil))))))) .nil))) .nil)))
  .nil))))))))))))))))))))
def tbInf : List PE := [⟨true, 0, 0⟩, ⟨true, 1, 1⟩, ⟨true, 0, 0⟩, ⟨true, 0, 0⟩, ⟨true, 12, 12⟩, ⟨true, 16, 16⟩, ⟨true, 0, 0⟩, ⟨true, 96, 96⟩, ⟨true, 130, 130⟩, ⟨true, 256, 256⟩, ⟨true, 512, 512⟩, ⟨true, 0, 0⟩, ⟨true, 2048, 16779264⟩, ⟨true, 0, 0⟩, ⟨true, 0, 0⟩, ⟨true, 24576, 24576⟩, ⟨true, 32768, 16809984⟩, ⟨true, 0, 0⟩, ⟨true, 196608, 196608⟩, ⟨true, 266240, 266240⟩, ⟨true, 524288, 524288⟩, ⟨true, 1048576, 17825792⟩, ⟨false, 0, 0⟩, ⟨false, 0, 0⟩, ⟨false, 12584959, 0⟩, ⟨false, 33554431, 0⟩]
structure InF (o : TOutline) (ns : List Int) (ms : List TPt) : Prop where
  vo : outB o = true
  sr : srt ns
  ln : ns.length = ms.length
  mv : ∀ p ∈ ms, pntB p = true
  bd : ∀ x ∈ ns, 0 ≤ x ∧ x < (cnK o.fLoops : Nat)
  nn : ns.length ≤ 1048576
theorem slF_sub {α : Type} {ns : List Int} {xs : List α} {b n : Nat} {P : α → Prop} (h : ∀ x ∈ xs, P x) : ∀ x ∈ slF ns xs b n, P x := fun x hx => h x (List.mem_of_mem_drop (List.mem_of_mem_take hx))
theorem slF_map {α : Type} (f : α → D) (ns : List Int) (xs : List α) (b n : Nat) : (slF ns xs b n).map f = ((xs.map f).drop (cl ns b)).take (cl ns (b + n : Nat) - cl ns b) := by rw [slF, List.map_take, List.map_drop]
set_option maxHeartbeats 8000000 in
theorem inferMoves_v (o : TOutline) (ns : List Int) (ms : List TPt) (h : InF o ns ms) : PC Tryz.prog 122 [.d o.D, .d (.lst (ns.map (D.int .i64))), .d (.lst (ms.map TPt.D))] (.own 1 0 (cnK o.fLoops)) [.arr 2 ((inL ns ms 0 o.fLoops).map TPt.D) true] := by
  refine pc_intro ttOk (by kernel_rfl) Tryz.func122 rfl (by kernel_rfl) (by kernel_rfl) (by kernel_rfl) (fun hw => ?_)
  obtain ⟨ho, hs, hlm, hmb, hnb, hn⟩ := h
  obtain ⟨ho1, ho2⟩ := out_in ho
  have hL : (o.fLoops.map TLoop.D).length = o.fLoops.length := List.length_map _
  have hLn : (ns.map (D.int .i64)).length = ns.length := List.length_map _
  have hLm : (ms.map TPt.D).length = ms.length := List.length_map _
  have hC := cnK_le ho2
  (conv => whnf)
  (repeat (refine stg_ ?_))
  refine LoopW.go (α := Nat) (fun i => [(1, .d (.lst (ns.map (D.int .i64)))), (2, .d (.lst (ms.map TPt.D))), (7, .own 2 0 ((inL ns ms 0 (o.fLoops.take i)).map TPt.D).length), (8, .d (.int .i64 (cnK (o.fLoops.take i) : Nat))), (26, .d (.lst (o.fLoops.map TLoop.D))), (27, .d (.int .i64 (o.fLoops.map TLoop.D).length)), (28, .d (.int .i64 i))]) (fun i => [.gone, .gone, .arr 2 ((inL ns ms 0 (o.fLoops.take i)).map TPt.D) true]) (fun i => i ≤ o.fLoops.length) (fun i => o.fLoops.length - i) 0 (Weak.trans (Weak.adopt (k := 7) rfl 2 true) covT_) (by omega) (fun i hi => ?_)
  have hT := cnK_take o.fLoops i
  have hIl : ((inL ns ms 0 (o.fLoops.take i)).map TPt.D).length = cnK (o.fLoops.take i) := by rw [List.length_map, inL_len]
  (conv => whnf)
  (refine br_ (fun h1 => ?_) (fun h1 => ?_))
  · obtain ⟨l, hl⟩ := at_lt' (xs := o.fLoops) (k := i) (by omega)
    obtain ⟨l1, l2, l3⟩ := loop_in (ho2 l (List.mem_of_getElem? hl))
    have hLk : (l.fKnots.map TKnot.D).length = l.fKnots.length := List.length_map _
    have he : (o.fLoops.map TLoop.D)[i]? = some l.D := by rw [List.getElem?_map, hl]; rfl
    have hS : inL ns ms 0 (o.fLoops.take (i + 1)) = inL ns ms 0 (o.fLoops.take i) ++ rsL l.fKnots (cnK (o.fLoops.take i)) (slF ns ns (cnK (o.fLoops.take i)) l.fKnots.length) (slF ns ms (cnK (o.fLoops.take i)) l.fKnots.length) l.fKnots.length := by
      rw [take_snoc_get hl, inL_snoc, Nat.zero_add]
    have hS2 : cnK (o.fLoops.take (i + 1)) = cnK (o.fLoops.take i) + l.fKnots.length := by rw [take_snoc_get hl, cnK_snoc]
    have hT2 := cnK_take o.fLoops (i + 1)
    rw [hS2] at hT2
    generalize hb : cnK (o.fLoops.take i) = b at *
    generalize hpre : inL ns ms 0 (o.fLoops.take i) = pre at *
    have c1 := bsr_v ns (b : Nat) hs hn
    have c2 := bsr_v ns ((b + l.fKnots.length : Nat) : Int) hs hn
    have g1 := cl_mono hs (a := (b : Int)) (b := ((b + l.fKnots.length : Nat) : Int)) (by omega)
    have g2 := cl_le ns ((b + l.fKnots.length : Nat) : Int)
    have hFl := slF_len (xs := ns) rfl b l.fKnots.length g1
    have hBl := slF_len (xs := ms) hlm b l.fKnots.length g1
    have hFs := slF_srt hs b l.fKnots.length
    have hFm := slF_map (D.int .i64) ns ns b l.fKnots.length
    have hBm := slF_map TPt.D ns ms b l.fKnots.length
    have hFi : ∀ j x, (slF ns ns b l.fKnots.length)[j]? = some x → (b : Int) ≤ x ∧ x < ((b + l.fKnots.length : Nat) : Int) := fun j x hx => slF_in hs hx
    have hBp : ∀ p ∈ slF ns ms b l.fKnots.length, pntB p = true := slF_sub hmb
    (repeat (refine stg_ ?_))
    (refine cla_ (c1) ?_)
    (repeat (refine stg_ ?_))
    rw [hLk]
    (refine cla_ (c2) ?_)
    (repeat (refine stg_ ?_))
    generalize hF : slF ns ns b l.fKnots.length = F at *
    generalize hB : slF ns ms b l.fKnots.length = B at *
    have hLF : (F.map (D.int .i64)).length = F.length := List.length_map _
    have hLB : (B.map TPt.D).length = B.length := List.length_map _
    refine LoopW.go (α := Nat) (fun k => [(1, .d (.lst (ns.map (D.int .i64)))), (2, .d (.lst (ms.map TPt.D))), (7, .own 2 0 ((pre ++ rsL l.fKnots b F B k).map TPt.D).length), (8, .d (.int .i64 (b : Nat))), (10, .pB 3 [] 0), (11, .d (.int .i64 l.fKnots.length)), (16, .d (.lst (F.map (D.int .i64)))), (17, .d (.lst (B.map TPt.D))), (26, .d (.lst (o.fLoops.map TLoop.D))), (27, .d (.int .i64 (o.fLoops.map TLoop.D).length)), (28, .d (.int .i64 i)), (58, .d (.lst (l.fKnots.map TKnot.D))), (59, .d (.int .i64 (l.fKnots.map TKnot.D).length)), (60, .d (.int .i64 k))]) (fun k => [.gone, .gone, .arr 2 ((pre ++ rsL l.fKnots b F B k).map TPt.D) true, .box (.d l.D)]) (fun k => k ≤ l.fKnots.length) (fun k => l.fKnots.length - k) 0 (Weak.cov ⟨rfl, rfl, ?_, rfl, rfl, ?_, ?_, ?_, rfl, rfl, rfl, rfl, rfl, rfl, trivial⟩ ⟨trivial, trivial, ?_, rfl, trivial⟩ rfl) (by omega) (fun k hk => ?_)
    · simp [rsL]; try rfl
    · rfl
    · rw [hFm]; rfl
    · rw [hBm]; rfl
    · simp [rsL]; try rfl
    have hrl := rsL_len l.fKnots b F B k
    have hpl : ((pre ++ rsL l.fKnots b F B k).map TPt.D).length = b + k := by rw [List.length_map, List.length_append, hrl]; rw [List.length_map] at hIl; omega
    have hR := rsL_succ l.fKnots b F B k
    have hprl : pre.length = b := by rw [List.length_map] at hIl; exact hIl
    (conv => whnf)
    (refine br_ (fun h2 => ?_) (fun h2 => ?_))
    · obtain ⟨n, hn⟩ := at_lt' (xs := l.fKnots) (k := k) (by omega)
      have hen : (l.fKnots.map TKnot.D)[k]? = some n.D := by rw [List.getElem?_map, hn]; rfl
      have hnp := pnt_in (l3 n (List.mem_of_getElem? hn))
      have fin : ∀ q : TPt, mv1 l.fKnots b F B k = q → (pre ++ rsL l.fKnots b F B (k + 1)).map TPt.D = (pre ++ rsL l.fKnots b F B k).map TPt.D ++ [q.D] := fun q hq => by
        rw [hR, hq, ← List.append_assoc, List.map_append]; rfl
      (repeat (refine stg_ ?_))
      (refine br_ (fun h3 => ?_) (fun h3 => ?_))
      · have hq := fin pt0 (by rw [mv1, if_pos (by omega)])
        (repeat (refine stg_ ?_))
        refine NextW.go (k + 1) (Weak.cov ⟨rfl, rfl, ?_, rfl, rfl, rfl, rfl, rfl, rfl, rfl, rfl, rfl, rfl, rfl, trivial⟩ ⟨trivial, trivial, ?_, rfl, trivial⟩ rfl) (by omega) (by omega)
        · rw [hq]; simp only [List.length_append]; rfl
        · rw [hq, List.take_length]; try rfl
      · have c3 := bsr_v F ((b + k : Nat) : Int) hFs (by omega)
        have hcl := cl_le F ((b + k : Nat) : Int)
        refine ArW.i64e ((b + k : Nat) : Int) (by omega) (by omega) ?_
        (conv => whnf)
        (repeat (refine stg_ ?_))
        (refine cla_ (c3) ?_)
        (repeat (refine stg_ ?_))
        have hm0 : 0 < F.length := by omega
        generalize hcc : cl F ((b + k : Nat) : Int) = c at *
        have t1 : ((c : Int) + ((F.map (D.int .i64)).length : Nat) - 1).tmod ((F.map (D.int .i64)).length : Nat) = (((c + F.length - 1) % F.length : Nat) : Int) := by
          rw [hLF, show (c : Int) + (F.length : Nat) - 1 = ((c + F.length - 1 : Nat) : Int) by omega, Int.tmod_eq_emod_of_nonneg (by omega)]; rfl
        have t2 : (c : Int).tmod ((F.map (D.int .i64)).length : Nat) = ((c % F.length : Nat) : Int) := by
          rw [hLF, Int.tmod_eq_emod_of_nonneg (by omega)]; rfl
        have m1 := Nat.mod_lt (c + F.length - 1) hm0
        have m2 := Nat.mod_lt c hm0
        cases hfd : fd F ((b + k : Nat) : Int)
        · obtain ⟨f1, hf1⟩ := at_lt' (xs := F) (k := (c + F.length - 1) % F.length) m1
          obtain ⟨f2, hf2⟩ := at_lt' (xs := F) (k := c % F.length) m2
          obtain ⟨p1, hp1⟩ := at_lt' (xs := B) (k := (c + F.length - 1) % F.length) (by omega)
          obtain ⟨p2, hp2⟩ := at_lt' (xs := B) (k := c % F.length) (by omega)
          have i1 := hFi _ _ hf1
          have i2 := hFi _ _ hf2
          obtain ⟨n1, hn1⟩ := at_lt' (xs := l.fKnots) (k := (f1 - (b : Int)).toNat) (by omega)
          obtain ⟨n2, hn2⟩ := at_lt' (xs := l.fKnots) (k := (f2 - (b : Int)).toNat) (by omega)
          have n1p := pnt_in (l3 n1 (List.mem_of_getElem? hn1))
          have n2p := pnt_in (l3 n2 (List.mem_of_getElem? hn2))
          have p1p := pnt_in (hBp p1 (List.mem_of_getElem? hp1))
          have p2p := pnt_in (hBp p2 (List.mem_of_getElem? hp2))
          have hq := fin ⟨bt n.fAt.fX n1.fAt.fX n2.fAt.fX p1.fX p2.fX, bt n.fAt.fY n1.fAt.fY n2.fAt.fY p1.fY p2.fY⟩ (by
            rw [mv1, if_neg (by omega), hcc, hfd, if_neg (by decide)]
            simp only [atK, atB, atF, hn, hf1, hf2, hp1, hp2, hn1, hn2, Option.map_some, Option.getD_some])
          have c4 := inferred_v n.fAt.fX n1.fAt.fX n2.fAt.fX p1.fX p2.fX (by omega)
          have c5 := inferred_v n.fAt.fY n1.fAt.fY n2.fAt.fY p1.fY p2.fY (by omega)
          have e1 : (F.map (D.int .i64))[(c + F.length - 1) % F.length]? = some (.int .i64 f1) := by rw [List.getElem?_map, hf1]; rfl
          have e2 : (F.map (D.int .i64))[c % F.length]? = some (.int .i64 f2) := by rw [List.getElem?_map, hf2]; rfl
          have e3 : (B.map TPt.D)[(c + F.length - 1) % F.length]? = some p1.D := by rw [List.getElem?_map, hp1]; rfl
          have e4 : (B.map TPt.D)[c % F.length]? = some p2.D := by rw [List.getElem?_map, hp2]; rfl
          have e5 : (l.fKnots.map TKnot.D)[(f1 - (b : Int)).toNat]? = some n1.D := by rw [List.getElem?_map, hn1]; rfl
          have e6 : (l.fKnots.map TKnot.D)[(f2 - (b : Int)).toNat]? = some n2.D := by rw [List.getElem?_map, hn2]; rfl
          (conv => whnf)
          (repeat ((fail_if_success (with_reducible apply RegD.id)); (refine stg_ ?_)))
          rw [t1, t2]
          refine RegD.cutT [(1, .d (.lst (ns.map (D.int .i64)))), (2, .d (.lst (ms.map TPt.D))), (7, .own 2 0 ((pre ++ rsL l.fKnots b F B k).map TPt.D).length), (8, .d (.int .i64 (b : Nat))), (10, .pB 3 [] 0), (11, .d (.int .i64 l.fKnots.length)), (16, .d (.lst (F.map (D.int .i64)))), (17, .d (.lst (B.map TPt.D))), (19, .pB 4 [] 0), (20, .d (.int .i64 ((c % F.length : Nat) : Int))), (22, .d (.int .i64 (((c + F.length - 1) % F.length : Nat) : Int))), (23, .pB 5 [] 0), (24, .pB 6 [] 0), (26, .d (.lst (o.fLoops.map TLoop.D))), (27, .d (.int .i64 (o.fLoops.map TLoop.D).length)), (28, .d (.int .i64 i)), (58, .d (.lst (l.fKnots.map TKnot.D))), (59, .d (.int .i64 (l.fKnots.map TKnot.D).length)), (60, .d (.int .i64 k))] [.gone, .gone, .arr 2 ((pre ++ rsL l.fKnots b F B k).map TPt.D) true, .box (.d l.D), .box (.d n.D), .box (.d n1.fAt.D), .box (.d n2.fAt.D)] trInf (treeOK_bits tbInf (by kernel_rfl) (by kernel_rfl) (by kernel_rfl)) ?_ ?_
          · (conv => whnf)
            repeat' (first | (refine stg_ ?_) | (refine IxW.at (by omega) e5 ?_; (conv => whnf)) | (refine IxW.at (by omega) e6 ?_; (conv => whnf)) | (refine And.intro ?_ ?_ <;> (conv => whnf)))
            all_goals (refine id (α := Weak _ _ _ _) ?_)
            all_goals first | (refine Weak.cov ?_ ?_ ?_; (focus ((repeat' (first | exact trivial | with_reducible rfl | (refine ⟨?_, ?_⟩) | rfl)); done)); (focus ((repeat' (first | exact trivial | with_reducible rfl | (refine ⟨?_, ?_⟩) | rfl)); done)); (focus rfl)) | (refine Weak.trans (Weak.swap 5 6 ?_) (Weak.cov ?_ ?_ ?_); (focus rfl); (focus (repeat' (first | exact trivial | with_reducible rfl | (refine ⟨?_, ?_⟩) | rfl))); (focus (repeat' (first | exact trivial | with_reducible rfl | (refine ⟨?_, ?_⟩) | rfl))); (focus rfl))
          · (conv => whnf)
            (repeat' (first | (refine stg_ ?_) | (refine cla_ (c4) ?_) | (refine cla_ (c5) ?_) | (refine br_ (fun hbr => ?_) (fun hbr => ?_))))
            refine NextW.go (k + 1) (Weak.cov ⟨rfl, rfl, ?_, rfl, rfl, rfl, rfl, rfl, rfl, rfl, rfl, rfl, rfl, rfl, trivial⟩ ⟨trivial, trivial, ?_, rfl, trivial⟩ rfl) (by omega) (by omega)
            · rw [hq]; simp only [List.length_append]; rfl
            · rw [hq, List.take_length]; try rfl
        · obtain ⟨p, hp⟩ := at_lt' (xs := B) (k := c) (by
            have : F[cl F ((b + k : Nat) : Int)]? = some ((b + k : Nat) : Int) := by simpa [fd] using hfd
            have := (List.getElem?_eq_some_iff.1 this).1
            omega)
          have hq := fin p (by rw [mv1, if_neg (by omega), hfd, if_pos rfl, hcc, atB, hp]; rfl)
          have hep : (B.map TPt.D)[c]? = some p.D := by rw [List.getElem?_map, hp]; rfl
          (conv => whnf)
          (repeat (refine stg_ ?_))
          refine NextW.go (k + 1) (Weak.cov ⟨rfl, rfl, ?_, rfl, rfl, rfl, rfl, rfl, rfl, rfl, rfl, rfl, rfl, rfl, trivial⟩ ⟨trivial, trivial, ?_, rfl, trivial⟩ rfl) (by omega) (by omega)
          · rw [hq]; simp only [List.length_append]; rfl
          · rw [hq, List.take_length]; try rfl
    · obtain rfl : k = l.fKnots.length := by omega
      (repeat (refine stg_ ?_))
      refine NextW.go (i + 1) (Weak.cov ⟨rfl, rfl, ?_, ?_, rfl, rfl, rfl, trivial⟩ ⟨trivial, trivial, ?_, trivial⟩ rfl) (by omega) (by omega)
      · rw [hS]; rfl
      · rw [hS2, ← hLk]; rfl
      · rw [hS]
  · obtain rfl : i = o.fLoops.length := by omega
    rw [List.take_length] at *
    (repeat (refine stg_ ?_))
    refine ⟨⟨[some 2], ⟨by decide, rfl, trivial, trivial⟩, by decide, rfl, ?_⟩⟩
    (conv => whnf)
    exact ⟨by decide, by rw [hIl]; rfl⟩

theorem set_mid {pre A rest : List TPt} {b j : Nat} {p : TPt} (hb : pre.length = b) (hj : j < A.length) : (pre ++ A ++ rest).set (b + j) p = pre ++ A.set j p ++ rest := by
  rw [List.append_assoc, List.set_append_right _ _ (by omega), show b + j - pre.length = j by omega, List.set_append_left _ _ hj, List.append_assoc]
theorem get_mid {pre A rest : List TPt} {b j : Nat} (hb : pre.length = b) (hj : j < A.length) : (pre ++ A ++ rest)[b + j]? = A[j]? := by
  rw [List.append_assoc, List.getElem?_append_right (by omega), show b + j - pre.length = j by omega, List.getElem?_append_left hj]
theorem fxL_sat {n b : Nat} {F : List Int} {B : List TPt} {j : Nat} (h : F.length ≤ j) : fxL n b F B j = fxL n b F B F.length := by
  apply List.map_congr_left
  intro i _
  simp only [fxV, List.take_of_length_le h, List.take_length]
theorem l00Has_v (xs : List Int) (n : Int) : PC Tryz.prog 93 [.d (.lst (xs.map (D.int .i64))), .d (.int .i64 n)] (.d (.bool (decide (n ∈ xs)))) [] := by
  refine pc_intro ttOk (by kernel_rfl) Tryz.func93 rfl (by kernel_rfl) (by kernel_rfl) (by kernel_rfl) (fun hw => ?_)
  have hL : (xs.map (D.int .i64)).length = xs.length := List.length_map _
  have hm : (xs.map (D.int .i64)).length ≤ 9223372036854775807 := hw.1.1
  (conv => whnf)
  refine LoopW.go (α := Nat) (fun k => [(0, .d (.lst (xs.map (D.int .i64)))), (1, .d (.int .i64 n)), (5, .d (.int .i64 k))]) (fun k => [.gone]) (fun k => k ≤ xs.length ∧ ¬ n ∈ xs.take k) (fun k => xs.length - k) 0 covT_ ?_ (fun k hk => ?_)
  · exact ⟨by omega, by simp⟩
  obtain ⟨hk1, hk2⟩ := hk
  (conv => whnf)
  (refine br_ (fun h2 => ?_) (fun h2 => ?_) <;> (repeat (refine stg_ ?_)))
  · obtain ⟨x, hx⟩ := at_lt' (xs := xs) (k := k) (by omega)
    (repeat (refine stg_ ?_))
    (refine br_ (fun h3 => ?_) (fun h3 => ?_) <;> (repeat (refine stg_ ?_)))
    · (refine RetOK.d rfl rfl ?_; conv => whnf)
      rw [decide_eq_true]
      rw [← h3]; exact List.mem_of_getElem? hx
    · (repeat (refine stg_ ?_))
      exact NextW.go (k + 1) covT_ ⟨by omega, by rw [take_snoc_get hx]; simp only [List.mem_append, List.mem_singleton]; rintro (h | h); (focus exact hk2 h); exact h3 h.symm⟩ (by omega)
  · (refine RetOK.d rfl rfl ?_; conv => whnf)
    rw [List.take_of_length_le (by omega)] at hk2
    rw [decide_eq_false hk2]
set_option maxHeartbeats 8000000 in
theorem l30Infer_v (o : TOutline) (ns : List Int) (ms : List TPt) (h : InF o ns ms) : PC Tryz.prog 112 [.pX o.D, .d (.lst (ns.map (D.int .i64))), .d (.lst (ms.map TPt.D))] (.own 1 0 (cnK o.fLoops)) [.arr 2 ((inL ns ms 0 o.fLoops).map TPt.D) true] := by
  refine pc_intro ttOk (by kernel_rfl) Tryz.func112 rfl (by kernel_rfl) (by kernel_rfl) (by kernel_rfl) (fun hw => ?_)
  obtain ⟨ho, hs, hlm, hmb, hnb, hn⟩ := h
  obtain ⟨ho1, ho2⟩ := out_in ho
  have hL : (o.fLoops.map TLoop.D).length = o.fLoops.length := List.length_map _
  have hLn : (ns.map (D.int .i64)).length = ns.length := List.length_map _
  have hLm : (ms.map TPt.D).length = ms.length := List.length_map _
  have hC := cnK_le ho2
  have c0 := l30Count_v o ho
  (conv => whnf)
  (refine cla_ (c0) ?_)
  (repeat ((fail_if_success (with_reducible apply RegD.id)); (refine stg_ ?_)))
  refine MkW.at (by omega) (by omega) (by show ((16 : Nat) : Int) * _ ≤ _; omega) ?_
  (conv => whnf)
  (repeat (refine stg_ ?_))
  refine LoopW.go (α := Nat) (fun i => [(0, .pX o.D), (1, .d (.lst (ns.map (D.int .i64)))), (2, .d (.lst (ms.map TPt.D))), (7, .own 1 0 (cnK o.fLoops)), (8, .d (.int .i64 (cnK (o.fLoops.take i) : Nat))), (9, .d (.int .i64 i))]) (fun i => [.gone, .arr 2 ((inL ns ms 0 (o.fLoops.take i) ++ List.replicate (cnK o.fLoops - cnK (o.fLoops.take i)) pt0).map TPt.D) true]) (fun i => i ≤ o.fLoops.length) (fun i => o.fLoops.length - i) 0 (Weak.cov ⟨rfl, rfl, rfl, rfl, rfl, rfl, trivial⟩ ⟨trivial, ?_, trivial⟩ rfl) (by omega) (fun i hi => ?_)
  · rw [List.take_zero, show cnK [] = 0 from rfl, Nat.sub_zero, show inL ns ms 0 [] = [] from rfl, List.nil_append, List.map_replicate]; rfl
  have hT := cnK_take o.fLoops i
  have hIl : (inL ns ms 0 (o.fLoops.take i)).length = cnK (o.fLoops.take i) := inL_len ns ms 0 _
  (conv => whnf)
  (refine br_ (fun h1 => ?_) (fun h1 => ?_))
  · obtain ⟨l, hl⟩ := at_lt' (xs := o.fLoops) (k := i) (by omega)
    obtain ⟨l1, l2, l3⟩ := loop_in (ho2 l (List.mem_of_getElem? hl))
    have hLk : (l.fKnots.map TKnot.D).length = l.fKnots.length := List.length_map _
    have hS2 : cnK (o.fLoops.take (i + 1)) = cnK (o.fLoops.take i) + l.fKnots.length := by rw [take_snoc_get hl, cnK_snoc]
    have hS : inL ns ms 0 (o.fLoops.take (i + 1)) = inL ns ms 0 (o.fLoops.take i) ++ rsL l.fKnots (cnK (o.fLoops.take i)) (slF ns ns (cnK (o.fLoops.take i)) l.fKnots.length) (slF ns ms (cnK (o.fLoops.take i)) l.fKnots.length) l.fKnots.length := by
      rw [take_snoc_get hl, inL_snoc, Nat.zero_add]
    have hT2 := cnK_take o.fLoops (i + 1)
    rw [hS2] at hT2
    generalize hb : cnK (o.fLoops.take i) = b at *
    generalize hpre : inL ns ms 0 (o.fLoops.take i) = pre at *
    have g1 := cl_mono hs (a := (b : Int)) (b := ((b + l.fKnots.length : Nat) : Int)) (by omega)
    have g2 := cl_le ns ((b + l.fKnots.length : Nat) : Int)
    have hFl := slF_len (xs := ns) rfl b l.fKnots.length g1
    have hBl := slF_len (xs := ms) hlm b l.fKnots.length g1
    have hFs := slF_srt hs b l.fKnots.length
    have hFi : ∀ j x, (slF ns ns b l.fKnots.length)[j]? = some x → (b : Int) ≤ x ∧ x < ((b + l.fKnots.length : Nat) : Int) := fun j x hx => slF_in hs hx
    have hBp : ∀ p ∈ slF ns ms b l.fKnots.length, pntB p = true := slF_sub hmb
    have hFa : ∀ (j : Nat) (x : Int), cl ns b ≤ j → j < cl ns (b + l.fKnots.length : Nat) → ns[j]? = some x → (slF ns ns b l.fKnots.length)[j - cl ns b]? = some x := fun j x q1 q2 q3 => slF_at q1 q2 q3
    have hBa : ∀ (j : Nat) (x : TPt), cl ns b ≤ j → j < cl ns (b + l.fKnots.length : Nat) → ms[j]? = some x → (slF ns ms b l.fKnots.length)[j - cl ns b]? = some x := fun j x q1 q2 q3 => slF_at q1 q2 q3
    have hIn : ∀ (j : Nat) (x : Int), ns[j]? = some x → inB x (b : Int) ((b : Int) + (l.fKnots.length : Int) - 1) = decide (cl ns b ≤ j ∧ j < cl ns (b + l.fKnots.length : Nat)) := fun j x q => in_iff hs q
    generalize hF : slF ns ns b l.fKnots.length = F at *
    generalize hB : slF ns ms b l.fKnots.length = B at *
    generalize hlo : cl ns (b : Int) = lo at *
    generalize hhi : cl ns ((b + l.fKnots.length : Nat) : Int) = hi' at *
    obtain ⟨rest, hrest⟩ : ∃ r, r = List.replicate (cnK o.fLoops - (b + l.fKnots.length)) pt0 := ⟨_, rfl⟩
    have hrl : rest.length = cnK o.fLoops - (b + l.fKnots.length) := by rw [hrest]; simp
    have hz : pre ++ List.replicate (cnK o.fLoops - b) pt0 = pre ++ fxL l.fKnots.length b F B 0 ++ rest := by
      rw [fxL_zero, hrest, List.append_assoc, List.replicate_append_replicate, show l.fKnots.length + (cnK o.fLoops - (b + l.fKnots.length)) = cnK o.fLoops - b by omega]
    rw [hz]
    obtain ⟨Gi, hGi⟩ : ∃ G : List Int, G = F.map (fun x => x - (b : Int)) := ⟨_, rfl⟩
    have hGl : Gi.length = F.length := by rw [hGi, List.length_map]
    have hGm : (Gi.map (D.int .i64)).length = F.length := by rw [List.length_map, hGl]
    have hGa : ∀ (j : Nat) (x : Int), F[j]? = some x → Gi[j]? = some (x - (b : Int)) := fun j x q => by rw [hGi, List.getElem?_map, q]; rfl
    (repeat (refine stg_ ?_))
    (refine CallW.inl' ttOk (by kernel_rfl) Tryz.func172 rfl (by kernel_rfl) (by kernel_rfl) (by rfl) [(0, .pX o.D), (1, .d (.lst (ns.map (D.int .i64)))), (2, .d (.lst (ms.map TPt.D))), (7, .own 1 0 (cnK o.fLoops)), (8, .d (.int .i64 (b : Nat))), (9, .d (.int .i64 (i : Nat)))] (by (conv => whnf); (repeat' (first | exact trivial | (refine ⟨?_, ?_⟩) | rfl))) (fun s => ?_); (conv => whnf))
    (repeat (refine stg_ ?_))
    refine LoopW.go (α := Nat) (fun j => [(0, .pX l.D), (1, .d (.int .i64 (b : Nat))), (2, .d (.lst (ns.map (D.int .i64)))), (3, .d (.lst (ms.map TPt.D))), (4, .own 1 0 (cnK o.fLoops)), (10, .d (.int .i64 l.fKnots.length)), (11, .own 3 0 ((Gi.take (j - lo)).map (D.int .i64)).length), (12, .d (.int .i64 (j : Nat)))]) (fun j => [.gone, .arr 2 ((pre ++ fxL l.fKnots.length b F B (j - lo) ++ rest).map TPt.D) true, .keep [(0, .pX o.D), (1, .d (.lst (ns.map (D.int .i64)))), (2, .d (.lst (ms.map TPt.D))), (7, .own 1 0 (cnK o.fLoops)), (8, .d (.int .i64 (b : Nat))), (9, .d (.int .i64 (i : Nat)))] s, .arr 1 ((Gi.take (j - lo)).map (D.int .i64)) true]) (fun j => j ≤ ns.length) (fun j => ns.length - j) 0 (Weak.cov ⟨rfl, rfl, rfl, rfl, rfl, ?_, ?_, rfl, trivial⟩ ⟨trivial, ?_, rfl, ?_, trivial⟩ rfl) (by omega) (fun j hj => ?_)
    · rw [← hLk]; rfl
    · rw [Nat.zero_sub, List.take_zero]; rfl
    · rw [Nat.zero_sub]
    · rw [Nat.zero_sub, List.take_zero]; rfl
    (conv => whnf)
    (refine br_ (fun h2 => ?_) (fun h2 => ?_))
    · obtain ⟨x, hx⟩ := at_lt' (xs := ns) (k := j) (by omega)
      obtain ⟨p, hp⟩ := at_lt' (xs := ms) (k := j) (by omega)
      have hex : (ns.map (D.int .i64))[j]? = some (.int .i64 x) := by rw [List.getElem?_map, hx]; rfl
      have hep : (ms.map TPt.D)[j]? = some p.D := by rw [List.getElem?_map, hp]; rfl
      have hxb := hnb x (List.mem_of_getElem? hx)
      have cI := l00In_v x (b : Int) ((b : Int) + (l.fKnots.length : Int) - 1)
      rw [hIn j x hx] at cI
      have hgt : ((Gi.take (j - lo)).map (D.int .i64)).length ≤ ns.length := by simp; omega
      have hgt2 : (Gi.take (j - lo)).length ≤ ns.length := by simp; omega
      by_cases hin : lo ≤ j ∧ j < hi'
      · rw [decide_eq_true hin] at cI
        have hFx := hFa j x hin.1 hin.2 hx
        have hBx := hBa j p hin.1 hin.2 hp
        have hxi := hFi _ _ hFx
        have hj1 : j + 1 - lo = j - lo + 1 := by omega
        have hGt : Gi.take (j - lo + 1) = Gi.take (j - lo) ++ [x - (b : Int)] := take_snoc_get (hGa _ _ hFx)
        have hxn : x.toNat = b + (x - (b : Int)).toNat := by omega
        have hfl := fxL_len l.fKnots.length b F B (j - lo)
        have htl : ((pre ++ fxL l.fKnots.length b F B (j - lo) ++ rest).map TPt.D).length = cnK o.fLoops := by simp only [List.length_map, List.length_append, hfl, hrl]; omega
        obtain ⟨q, hq⟩ := at_lt' (xs := pre ++ fxL l.fKnots.length b F B (j - lo) ++ rest) (k := x.toNat) (by simp only [List.length_append, hfl, hrl]; omega)
        have he0 : ((pre ++ fxL l.fKnots.length b F B (j - lo) ++ rest).map TPt.D)[x.toNat]? = some q.D := by rw [List.getElem?_map, hq]; rfl
        have hset : ((pre ++ fxL l.fKnots.length b F B (j - lo) ++ rest).map TPt.D).set x.toNat p.D = (pre ++ fxL l.fKnots.length b F B (j - lo + 1) ++ rest).map TPt.D := by
          rw [← List.map_set, hxn, set_mid hIl (by rw [hfl]; omega), fxL_set hFs hFx hBx hxi.1]
        (repeat (refine stg_ ?_))
        (refine cla_ (cI) ?_)
        (repeat' (first | (refine stg_ ?_) | fail | (refine br_ (fun hbr => ?_) (fun hbr => ?_))))
        refine NextW.go (j + 1) (Weak.cov ⟨rfl, rfl, rfl, rfl, rfl, rfl, ?_, rfl, trivial⟩ ⟨trivial, ?_, rfl, ?_, trivial⟩ rfl) (by omega) (by omega)
        · rw [hj1, hGt]; simp only [List.map_append, List.length_append]; rfl
        · rw [hj1, ← hset]; try rfl
        · rw [hj1, hGt, List.map_append, List.take_length]; try rfl
      · rw [decide_eq_false hin] at cI
        have hsame : Gi.take (j + 1 - lo) = Gi.take (j - lo) ∧ fxL l.fKnots.length b F B (j + 1 - lo) = fxL l.fKnots.length b F B (j - lo) := by
          rcases Nat.lt_or_ge j lo with q | q
          · rw [show j + 1 - lo = j - lo by omega]; exact ⟨rfl, rfl⟩
          · rw [List.take_of_length_le (by omega), List.take_of_length_le (by omega), fxL_sat (by omega), fxL_sat (j := j - lo) (by omega)]
            exact ⟨rfl, rfl⟩
        (repeat (refine stg_ ?_))
        (refine cla_ (cI) ?_)
        (repeat' (first | (refine stg_ ?_) | fail | (refine br_ (fun hbr => ?_) (fun hbr => ?_))))
        refine NextW.go (j + 1) (Weak.cov ⟨rfl, rfl, rfl, rfl, rfl, rfl, ?_, rfl, trivial⟩ ⟨trivial, ?_, rfl, ?_, trivial⟩ rfl) (by omega) (by omega)
        · rw [hsame.1]; rfl
        · rw [hsame.2]
        · rw [hsame.1]
    · have hjn : Gi.take (j - lo) = Gi ∧ fxL l.fKnots.length b F B (j - lo) = fxL l.fKnots.length b F B F.length := by
        rw [List.take_of_length_le (by omega), fxL_sat (by omega)]; exact ⟨rfl, rfl⟩
      rw [hjn.1, hjn.2]
      (repeat (refine stg_ ?_))
      cases hm0 : (((Gi.map (D.int .i64)).length : Int) == 0)
      · rw [beq_eq_false_iff_ne] at hm0
        have hm : 0 < F.length := by omega
        (conv => whnf)
        (repeat (refine stg_ ?_))
        refine LoopW.go (α := Nat) (fun k => [(0, .pX l.D), (1, .d (.int .i64 (b : Nat))), (4, .own 1 0 (cnK o.fLoops)), (10, .d (.int .i64 l.fKnots.length)), (11, .own 3 0 (Gi.map (D.int .i64)).length), (13, .d (.int .i64 k))]) (fun k => [.gone, .arr 2 ((pre ++ myL l.fKnots.length l.fKnots b F B k ++ rest).map TPt.D) true, .keep [(0, .pX o.D), (1, .d (.lst (ns.map (D.int .i64)))), (2, .d (.lst (ms.map TPt.D))), (7, .own 1 0 (cnK o.fLoops)), (8, .d (.int .i64 (b : Nat))), (9, .d (.int .i64 (i : Nat)))] s, .arr 1 (Gi.map (D.int .i64)) true]) (fun k => k ≤ l.fKnots.length) (fun k => l.fKnots.length - k) 0 (Weak.cov ⟨rfl, rfl, rfl, rfl, rfl, rfl, trivial⟩ ⟨trivial, by rw [myL_zero], rfl, rfl, trivial⟩ rfl) (by omega) (fun k hk => ?_)
        have hyl := myL_len l.fKnots.length l.fKnots b F B k
        have htl : ((pre ++ myL l.fKnots.length l.fKnots b F B k ++ rest).map TPt.D).length = cnK o.fLoops := by simp only [List.length_map, List.length_append, hyl, hrl]; omega
        (conv => whnf)
        (refine br_ (fun h3 => ?_) (fun h3 => ?_))
        · have hmem : ((k : Nat) : Int) ∈ Gi ↔ ((b + k : Nat) : Int) ∈ F := by
            rw [hGi, List.mem_map]
            constructor
            · rintro ⟨x, hx, e⟩
              have : ((b + k : Nat) : Int) = x := by omega
              rw [this]; exact hx
            · intro hx
              exact ⟨_, hx, by omega⟩
          have cH := l00Has_v Gi (k : Nat)
          by_cases hkG : ((k : Nat) : Int) ∈ Gi
          · rw [decide_eq_true hkG] at cH
            (repeat (refine stg_ ?_))
            (refine cla_ (cH) ?_)
            (repeat' (first | (refine stg_ ?_) | fail | (refine br_ (fun hbr => ?_) (fun hbr => ?_))))
            refine NextW.go (k + 1) (Weak.cov ⟨rfl, rfl, rfl, rfl, rfl, rfl, trivial⟩ ⟨trivial, ?_, rfl, rfl, trivial⟩ rfl) (by omega) (by omega)
            rw [myL_skip hFs (hmem.1 hkG)]
          · rw [decide_eq_false hkG] at cH
            have hkF : ¬ ((b + k : Nat) : Int) ∈ F := fun q => hkG (hmem.2 q)
            have hfd : fd F ((b + k : Nat) : Int) = false := by
              cases q : fd F ((b + k : Nat) : Int)
              · rfl
              · exact absurd ((mem_fd hFs _).1 q) hkF
            have hcl := cl_le F ((b + k : Nat) : Int)
            have hlt : ∀ j x, F[j]? = some x → (x < ((b + k : Nat) : Int) ↔ j < cl F ((b + k : Nat) : Int)) := fun j x hx => by
              constructor
              · intro q
                apply Classical.byContradiction
                intro q2
                have := cl_ge (b := ((b + k : Nat) : Int)) hFs (by omega) hx
                omega
              · intro q; exact cl_lt q hx
            have hne : ∀ j x, F[j]? = some x → x ≠ ((b + k : Nat) : Int) := fun j x hx e => hkF (e ▸ List.mem_of_getElem? hx)
            generalize hcc : cl F ((b + k : Nat) : Int) = c at *
            have aF : ∀ j x, F[j]? = some x → atF Gi j = x - (b : Int) := fun j x hx => by rw [atF, hGa j x hx]; rfl
            obtain ⟨fl, hfl⟩ := at_lt' (xs := F) (k := F.length - 1) (by omega)
            obtain ⟨f0, hf0⟩ := at_lt' (xs := F) (k := 0) hm
            have el : (Gi.map (D.int .i64))[(((Gi.map (D.int .i64)).length : Int) - 1).toNat]? = some (.int .i64 (fl - (b : Int))) := by
              have : (((Gi.map (D.int .i64)).length : Int) - 1).toNat = F.length - 1 := by omega
              rw [this, List.getElem?_map, hGa _ _ hfl]; rfl
            have e0' : (Gi.map (D.int .i64))[0]? = some (.int .i64 (f0 - (b : Int))) := by rw [List.getElem?_map, hGa _ _ hf0]; rfl
            (repeat (refine stg_ ?_))
            (refine cla_ (cH) ?_)
            (repeat' (first | (refine stg_ ?_) | fail | (refine br_ (fun hbr => ?_) (fun hbr => ?_))))
            refine LoopW.go (α := Nat) (fun j => [(0, .pX l.D), (1, .d (.int .i64 (b : Nat))), (4, .own 1 0 (cnK o.fLoops)), (10, .d (.int .i64 l.fKnots.length)), (11, .own 3 0 (Gi.map (D.int .i64)).length), (13, .d (.int .i64 k)), (14, .d (.int .i64 (fl - (b : Int)))), (15, .d (.int .i64 (atF Gi (afI c F.length j)))), (16, .d (.int .i64 (iz j)))]) (fun j => [.gone, .arr 2 ((pre ++ myL l.fKnots.length l.fKnots b F B k ++ rest).map TPt.D) true, .keep [(0, .pX o.D), (1, .d (.lst (ns.map (D.int .i64)))), (2, .d (.lst (ms.map TPt.D))), (7, .own 1 0 (cnK o.fLoops)), (8, .d (.int .i64 (b : Nat))), (9, .d (.int .i64 (i : Nat)))] s, .arr 1 (Gi.map (D.int .i64)) true]) (fun j => j ≤ F.length) (fun j => j) F.length (Weak.cov ⟨rfl, rfl, rfl, rfl, rfl, rfl, rfl, ?_, ?_, trivial⟩ ⟨trivial, rfl, rfl, rfl, trivial⟩ rfl) (Nat.le_refl _) (fun j hj => ?_)
            · rw [show afI c F.length F.length = 0 by unfold afI; rw [if_neg (by omega)], aF 0 f0 hf0]; rfl
            · rw [← iz_eq, ← hGm]; rfl
            rcases j with _ | j
            · (conv => whnf)
              (repeat (refine stg_ ?_))
              refine LoopW.go (α := Nat) (fun j => [(0, .pX l.D), (1, .d (.int .i64 (b : Nat))), (4, .own 1 0 (cnK o.fLoops)), (10, .d (.int .i64 l.fKnots.length)), (11, .own 3 0 (Gi.map (D.int .i64)).length), (13, .d (.int .i64 k)), (14, .d (.int .i64 (atF Gi (beI c F.length j)))), (15, .d (.int .i64 (atF Gi (c % F.length)))), (17, .d (.int .i64 (j : Nat)))]) (fun j => [.gone, .arr 2 ((pre ++ myL l.fKnots.length l.fKnots b F B k ++ rest).map TPt.D) true, .keep [(0, .pX o.D), (1, .d (.lst (ns.map (D.int .i64)))), (2, .d (.lst (ms.map TPt.D))), (7, .own 1 0 (cnK o.fLoops)), (8, .d (.int .i64 (b : Nat))), (9, .d (.int .i64 (i : Nat)))] s, .arr 1 (Gi.map (D.int .i64)) true]) (fun j => j ≤ F.length) (fun j => F.length - j) 0 (Weak.cov ⟨rfl, rfl, rfl, rfl, rfl, rfl, ?_, ?_, rfl, trivial⟩ ⟨trivial, rfl, rfl, rfl, trivial⟩ rfl) (by omega) (fun j hj => ?_)
              · rw [show beI c F.length 0 = F.length - 1 by unfold beI; rw [if_pos (by omega)], aF _ fl hfl]; rfl
              · rw [afI_end hm hcl]; rfl
              (conv => whnf)
              (refine br_ (fun h5 => ?_) (fun h5 => ?_))
              · obtain ⟨x, hx⟩ := at_lt' (xs := F) (k := j) (by omega)
                have hxi := hFi j x hx
                have hex : (Gi.map (D.int .i64))[j]? = some (.int .i64 (x - (b : Int))) := by rw [List.getElem?_map, hGa j x hx]; rfl
                (repeat (refine stg_ ?_))
                (refine br_ (fun h6 => ?_) (fun h6 => ?_))
                · have hcj : j < c := (hlt j x hx).1 (by omega)
                  (repeat (refine stg_ ?_))
                  refine NextW.go (j + 1) (Weak.cov ⟨rfl, rfl, rfl, rfl, rfl, rfl, ?_, rfl, rfl, trivial⟩ ⟨trivial, rfl, rfl, rfl, trivial⟩ rfl) (by omega) (by omega)
                  rw [show beI c F.length (j + 1) = j by unfold beI; rw [if_neg (by omega)]; omega, aF j x hx]; rfl
                · have hcj : c ≤ j := by
                    apply Classical.byContradiction
                    intro q
                    have := (hlt j x hx).2 (by omega)
                    omega
                  (repeat (refine stg_ ?_))
                  refine NextW.go (j + 1) (Weak.cov ⟨rfl, rfl, rfl, rfl, rfl, rfl, ?_, rfl, rfl, trivial⟩ ⟨trivial, rfl, rfl, rfl, trivial⟩ rfl) (by omega) (by omega)
                  rw [show beI c F.length (j + 1) = beI c F.length j by unfold beI; rw [show min (j + 1) c = min j c by omega]]; rfl
              · obtain rfl : j = F.length := by omega
                rw [beI_end hm hcl]
                have m1 := Nat.mod_lt (c + F.length - 1) hm
                have m2 := Nat.mod_lt c hm
                obtain ⟨f1, hf1⟩ := at_lt' (xs := F) (k := (c + F.length - 1) % F.length) m1
                obtain ⟨f2, hf2⟩ := at_lt' (xs := F) (k := c % F.length) m2
                obtain ⟨p1, hp1⟩ := at_lt' (xs := B) (k := (c + F.length - 1) % F.length) (by omega)
                obtain ⟨p2, hp2⟩ := at_lt' (xs := B) (k := c % F.length) (by omega)
                have i1 := hFi _ _ hf1
                have i2 := hFi _ _ hf2
                obtain ⟨n0, hn0⟩ := at_lt' (xs := l.fKnots) (k := k) (by omega)
                obtain ⟨n1, hn1⟩ := at_lt' (xs := l.fKnots) (k := (f1 - (b : Int)).toNat) (by omega)
                obtain ⟨n2, hn2⟩ := at_lt' (xs := l.fKnots) (k := (f2 - (b : Int)).toNat) (by omega)
                have n0p := pnt_in (l3 n0 (List.mem_of_getElem? hn0))
                have n1p := pnt_in (l3 n1 (List.mem_of_getElem? hn1))
                have n2p := pnt_in (l3 n2 (List.mem_of_getElem? hn2))
                have p1p := pnt_in (hBp p1 (List.mem_of_getElem? hp1))
                have p2p := pnt_in (hBp p2 (List.mem_of_getElem? hp2))
                have hmv : mv1 l.fKnots b F B k = ⟨bt n0.fAt.fX n1.fAt.fX n2.fAt.fX p1.fX p2.fX, bt n0.fAt.fY n1.fAt.fY n2.fAt.fY p1.fY p2.fY⟩ := by
                  rw [mv1, if_neg (by omega), hcc, hfd, if_neg (by decide)]
                  simp only [atK, atB, atF, hn0, hf1, hf2, hp1, hp2, hn1, hn2, Option.map_some, Option.getD_some]
                have c4 := l30Between_v n0.fAt.fX n1.fAt.fX n2.fAt.fX p1.fX p2.fX (by omega)
                have c5 := l30Between_v n0.fAt.fY n1.fAt.fY n2.fAt.fY p1.fY p2.fY (by omega)
                rw [aF _ f1 hf1, aF _ f2 hf2]
                have k0 : (l.fKnots.map TKnot.D)[k]? = some n0.D := by rw [List.getElem?_map, hn0]; rfl
                have k1 : (l.fKnots.map TKnot.D)[(f1 - (b : Int)).toNat]? = some n1.D := by rw [List.getElem?_map, hn1]; rfl
                have k2 : (l.fKnots.map TKnot.D)[(f2 - (b : Int)).toNat]? = some n2.D := by rw [List.getElem?_map, hn2]; rfl
                have o1 : ((pre ++ myL l.fKnots.length l.fKnots b F B k ++ rest).map TPt.D)[((b : Int) + (f1 - (b : Int))).toNat]? = some p1.D := by
                  have : ((b : Int) + (f1 - (b : Int))).toNat = b + (f1 - (b : Int)).toNat := by omega
                  rw [this, List.getElem?_map, get_mid hIl (by rw [hyl]; omega), myL_at hFs hf1 hp1 i1.1 i1.2]; rfl
                have o2 : ((pre ++ myL l.fKnots.length l.fKnots b F B k ++ rest).map TPt.D)[((b : Int) + (f2 - (b : Int))).toNat]? = some p2.D := by
                  have : ((b : Int) + (f2 - (b : Int))).toNat = b + (f2 - (b : Int)).toNat := by omega
                  rw [this, List.getElem?_map, get_mid hIl (by rw [hyl]; omega), myL_at hFs hf2 hp2 i2.1 i2.2]; rfl
                obtain ⟨q, hq⟩ := at_lt' (xs := pre ++ myL l.fKnots.length l.fKnots b F B k ++ rest) (k := b + k) (by simp only [List.length_append, hyl, hrl]; omega)
                have o3 : ((pre ++ myL l.fKnots.length l.fKnots b F B k ++ rest).map TPt.D)[((b : Int) + (k : Int)).toNat]? = some q.D := by
                  have : ((b : Int) + (k : Int)).toNat = b + k := by omega
                  rw [this, List.getElem?_map, hq]; rfl
                have hset : ((pre ++ myL l.fKnots.length l.fKnots b F B k ++ rest).map TPt.D).set ((b : Int) + (k : Int)).toNat (TPt.D ⟨bt n0.fAt.fX n1.fAt.fX n2.fAt.fX p1.fX p2.fX, bt n0.fAt.fY n1.fAt.fY n2.fAt.fY p1.fY p2.fY⟩) = (pre ++ myL l.fKnots.length l.fKnots b F B (k + 1) ++ rest).map TPt.D := by
                  have : ((b : Int) + (k : Int)).toNat = b + k := by omega
                  rw [this, ← List.map_set, set_mid hIl (by rw [hyl]; omega), ← hmv, myL_set]
                (repeat' (first | (refine stg_ ?_) | (refine IxW.at (by omega) k1 ?_; (conv => whnf)) | (refine IxW.at (by omega) k2 ?_; (conv => whnf)) | (refine EoW.at o1 ?_; (conv => whnf)) | (refine EoW.at o2 ?_; (conv => whnf)) | (refine EoW.at o3 ?_; (conv => whnf)) | (refine cla_ (c4) ?_) | (refine cla_ (c5) ?_) | (refine br_ (fun hbr => ?_) (fun hbr => ?_))))
                refine NextW.go (k + 1) (Weak.cov ⟨rfl, rfl, rfl, rfl, rfl, rfl, trivial⟩ ⟨trivial, ?_, rfl, rfl, trivial⟩ rfl) (by omega) (by omega)
                rw [← hset]; try rfl
            · obtain ⟨x, hx⟩ := at_lt' (xs := F) (k := j) (by omega)
              have hxi := hFi j x hx
              have hex : (Gi.map (D.int .i64))[j]? = some (.int .i64 (x - (b : Int))) := by rw [List.getElem?_map, hGa j x hx]; rfl
              (conv => whnf)
              refine IoW.at (by show (0 : Int) ≤ ((j : Nat) : Int); omega) (by show ((j : Nat) : Int) < _; omega) ?_
              (conv => whnf)
              (repeat (refine stg_ ?_))
              (refine br_ (fun h4 => ?_) (fun h4 => ?_))
              · have hcj : c ≤ j := by
                  apply Classical.byContradiction
                  intro q
                  have := (hlt j x hx).2 (by omega)
                  omega
                refine IoW.at (by show (0 : Int) ≤ ((j : Nat) : Int); omega) (by show ((j : Nat) : Int) < _; omega) ?_
                (conv => whnf)
                (repeat (refine stg_ ?_))
                refine ArW.i64e (iz j) (by rw [← iz_eq j]; rfl) (by have := iz_eq j; omega) ?_
                (conv => whnf)
                (repeat (refine stg_ ?_))
                refine NextW.go j (Weak.cov ⟨rfl, rfl, rfl, rfl, rfl, rfl, rfl, ?_, rfl, trivial⟩ ⟨trivial, rfl, rfl, rfl, trivial⟩ rfl) (by omega) (by show j < j + 1; omega)
                rw [show afI c F.length j = j by unfold afI; rw [if_pos (by omega)]; omega, aF j x hx]; rfl
              · have hcj : j < c := by
                  apply (hlt j x hx).1
                  have := hne j x hx
                  omega
                (repeat (refine stg_ ?_))
                refine ArW.i64e (iz j) (by rw [← iz_eq j]; rfl) (by have := iz_eq j; omega) ?_
                (conv => whnf)
                (repeat (refine stg_ ?_))
                refine NextW.go j (Weak.cov ⟨rfl, rfl, rfl, rfl, rfl, rfl, rfl, ?_, rfl, trivial⟩ ⟨trivial, rfl, rfl, rfl, trivial⟩ rfl) (by omega) (by show j < j + 1; omega)
                rw [show afI c F.length j = afI c F.length (j + 1) by unfold afI; rw [show max j c = max (j + 1) c by omega]]; rfl
        · obtain rfl : k = l.fKnots.length := by omega
          have hmy := myL_end l.fKnots b F B l.fKnots.length
          rw [hmy]
          (repeat (refine stg_ ?_))
          refine ⟨rfl, ?_⟩
          (conv => whnf)
          (repeat (refine stg_ ?_))
          refine NextW.go (i + 1) (Weak.cov ⟨rfl, rfl, rfl, rfl, ?_, rfl, trivial⟩ ⟨trivial, ?_, trivial⟩ rfl) (by omega) (by omega)
          · rw [hS2, ← hLk]; rfl
          · rw [hS, hS2, ← hrest]
      · rw [beq_iff_eq] at hm0
        have hm : F.length = 0 := by omega
        have hrs := rs_none (K := l.fKnots) (b := b) (B := B) hm l.fKnots.length
        have hfz : fxL l.fKnots.length b F B F.length = List.replicate l.fKnots.length pt0 := by rw [hm, fxL_zero]
        (conv => whnf)
        (repeat (refine stg_ ?_))
        refine ⟨rfl, ?_⟩
        (conv => whnf)
        (repeat (refine stg_ ?_))
        refine NextW.go (i + 1) (Weak.cov ⟨rfl, rfl, rfl, rfl, ?_, rfl, trivial⟩ ⟨trivial, ?_, trivial⟩ rfl) (by omega) (by omega)
        · rw [hS2, ← hLk]; rfl
        · rw [hS, hS2, ← hrest, hrs, hfz]
  · obtain rfl : i = o.fLoops.length := by omega
    rw [List.take_length] at *
    (repeat (refine stg_ ?_))
    refine ⟨⟨[some 1], ⟨by decide, ?_, trivial, trivial⟩, by decide, rfl, ?_⟩⟩
    · show some (Blk.arr 2 _ true) = some (Blk.arr 2 _ true)
      rw [Nat.sub_self, List.replicate_zero, List.append_nil]
    (conv => whnf)
    exact ⟨by decide, rfl⟩
theorem l30Last_v (ns : List Int) (n : Int) : PC Tryz.prog 76 [.d (.lst (ns.map (D.int .i64))), .d (.int .i64 n)] (.d (.bool (match ns[ns.length - 1]? with | some z => decide (z < n) | none => true))) [] := by
  refine pc_intro ttOk (by kernel_rfl) Tryz.func76 rfl (by kernel_rfl) (by kernel_rfl) (by kernel_rfl) (fun hw => ?_)
  have hL : (ns.map (D.int .i64)).length = ns.length := List.length_map _
  have hm : (ns.map (D.int .i64)).length ≤ 9223372036854775807 := hw.1.1
  rcases Nat.eq_zero_or_pos ns.length with hz | hz
  · rw [List.getElem?_eq_none (by omega)]
    (conv => whnf)
    (repeat' (first | (refine stg_ ?_) | fail | (refine br_ (fun hbr => ?_) (fun hbr => ?_))))
    all_goals first | (exfalso; omega) | ((refine RetOK.d rfl rfl ?_; conv => whnf); done) | ((refine RetOK.d rfl rfl ?_; conv => whnf); rfl)
  · obtain ⟨z, hz'⟩ := at_lt' (xs := ns) (k := ns.length - 1) (by omega)
    have hz2 : (ns.map (D.int .i64))[(((ns.map (D.int .i64)).length : Int) - 1).toNat]? = some (.int .i64 z) := by
      have : (((ns.map (D.int .i64)).length : Int) - 1).toNat = ns.length - 1 := by omega
      rw [this, List.getElem?_map, hz']; rfl
    rw [hz']
    (conv => whnf)
    (repeat' (first | (refine stg_ ?_) | (refine IxW.at (by omega) hz2 ?_; (conv => whnf)) | (refine br_ (fun hbr => ?_) (fun hbr => ?_))))
    all_goals first | (exfalso; omega) | ((refine RetOK.d rfl rfl ?_; conv => whnf); done) | ((refine RetOK.d rfl rfl ?_; conv => whnf); rfl) | ((refine RetOK.d rfl rfl ?_; conv => whnf); simp)
theorem prod_small {a b : Int} (h1 : 0 ≤ a) (h2 : a ≤ 16384) (h3 : 0 ≤ b) (h4 : b ≤ 16384) : 0 ≤ a * b ∧ a * b ≤ 268435456 := by
  have e1 : 0 ≤ a * b := Int.mul_nonneg h1 h3
  have e2 : a * b ≤ 16384 * b := Int.mul_le_mul_of_nonneg_right h2 h3
  omega
theorem l30Effect_v (xs : List TPeak) (ns : List Int) (h1 : xs.all pkB = true) (h2 : nmsB ns xs.length = true) : PC Tryz.prog 111 [.d (.lst (xs.map TPeak.D)), .d (.lst (ns.map (D.int .i64)))] (.d (.int .i64 (mfK xs ns xs.length))) [] := by
  refine pc_intro ttOk (by kernel_rfl) Tryz.func111 rfl (by kernel_rfl) (by kernel_rfl) (by kernel_rfl) (fun hw => ?_)
  have hL : (xs.map TPeak.D).length = xs.length := List.length_map _
  have hm : (xs.map TPeak.D).length ≤ 9223372036854775807 := hw.1.1
  have hl := nms_len h2
  (conv => whnf)
  refine LoopW.go (α := Nat) (fun k => [(0, .d (.lst (xs.map TPeak.D))), (1, .d (.lst (ns.map (D.int .i64)))), (5, .d (.int .i64 (mfK xs ns k))), (6, .d (.int .i64 k))]) (fun k => [.gone]) (fun k => k ≤ xs.length) (fun k => xs.length - k) 0 covT_ ?_ (fun k hk => ?_)
  · omega
  (conv => whnf)
  (refine br_ (fun h3 => ?_) (fun h3 => ?_) <;> (repeat (refine stg_ ?_)))
  · obtain ⟨p, hp⟩ := at_lt' (xs := xs) (k := k) (by omega)
    obtain ⟨q, hq⟩ := at_lt' (xs := ns) (k := k) (by omega)
    have b1 := mfK_bnd (ns := ns) h1 k
    have pb := List.all_eq_true.1 h1 p (List.mem_of_getElem? hp)
    have b2 := pkF_bnd pb q
    have b3 := prod_small b1.1 b1.2 b2.1 b2.2
    (repeat' (first | (refine stg_ ?_) | (refine cl_ (l30Factor_v p q pb (nms_at h2 hq)) ?_) | (refine cl_ (specDivRound_v _ _) ?_) | (refine br_ (fun hbr => ?_) (fun hbr => ?_))))
    exact NextW.go (k + 1) (Weak.cov ⟨rfl, rfl, by rw [mfK_at hp hq]; rfl, rfl, trivial⟩ ⟨trivial, trivial⟩ rfl) (by omega) (by omega)
  · (refine RetOK.d rfl rfl ?_; conv => whnf)
    obtain rfl : k = xs.length := by omega
    rfl
theorem masterFactor_v (m : TMaster) (ns : List Int) (h1 : m.fPeaks.all pkB = true) (h2 : nmsB ns m.fPeaks.length = true) : PC Tryz.prog 121 [.d m.D, .d (.lst (ns.map (D.int .i64)))] (.d (.int .i64 (mfK m.fPeaks ns m.fPeaks.length))) [] := by
  refine pc_intro ttOk (by kernel_rfl) Tryz.func121 rfl (by kernel_rfl) (by kernel_rfl) (by kernel_rfl) (fun hw => ?_)
  have hL : (m.fPeaks.map TPeak.D).length = m.fPeaks.length := List.length_map _
  have hm : (m.fPeaks.map TPeak.D).length ≤ 9223372036854775807 := hw.1.1.1
  have hl := nms_len h2
  (conv => whnf)
  refine LoopW.go (α := Nat) (fun k => [(1, .d (.lst (ns.map (D.int .i64)))), (5, .d (.int .i64 (mfK m.fPeaks ns k))), (9, .d (.lst (m.fPeaks.map TPeak.D))), (10, .d (.int .i64 (m.fPeaks.map TPeak.D).length)), (11, .d (.int .i64 k))]) (fun k => [.gone]) (fun k => k ≤ m.fPeaks.length) (fun k => m.fPeaks.length - k) 0 covT_ ?_ (fun k hk => ?_)
  · omega
  (conv => whnf)
  (refine br_ (fun h3 => ?_) (fun h3 => ?_) <;> (repeat (refine stg_ ?_)))
  · obtain ⟨p, hp⟩ := at_lt' (xs := m.fPeaks) (k := k) (by omega)
    obtain ⟨q, hq⟩ := at_lt' (xs := ns) (k := k) (by omega)
    have b1 := mfK_bnd (ns := ns) h1 k
    have pb := List.all_eq_true.1 h1 p (List.mem_of_getElem? hp)
    have b2 := pkF_bnd pb q
    have b3 := prod_small b1.1 b1.2 b2.1 b2.2
    (repeat' (first | (refine stg_ ?_) | (refine cl_ (peakFactor_v p q pb (nms_at h2 hq)) ?_) | (refine cl_ (DivRound_v _ _) ?_) | (refine br_ (fun hbr => ?_) (fun hbr => ?_))))
    exact NextW.go (k + 1) (Weak.cov ⟨rfl, by rw [mfK_at hp hq]; rfl, rfl, rfl, rfl, trivial⟩ ⟨trivial, trivial⟩ rfl) (by omega) (by omega)
  · (refine RetOK.d rfl rfl ?_; conv => whnf)
    obtain rfl : k = m.fPeaks.length := by omega
    rfl
end Go.Proofs.YtfnnlipcclklnaaGreat