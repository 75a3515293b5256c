/- merged: several parts in one text. Leans on no more than they do. -/
import Derived.Test.YtpdeibhedafcfaaGreatDoorGsP
import Derived.Test.YtpdeibhedafcfaaGreatDoorLV
import Derived.Test.YtpdeibhedafcfaaGreatDoorLVBase
set_option linter.unusedSimpArgs false
set_option linter.unusedVariables false
namespace Go.Proofs.YtpdeibhedafcfaaGreatDoor
open Go.RowKit
def pkB (p : TPeak) : Bool := nrm p.fStart && (nrm p.fEnd && (inB p.fTop p.fStart p.fEnd && (decide (0 ≤ p.fStart) || (decide (p.fEnd ≤ 0) || decide (p.fTop = 0)))))
theorem pk_facts {p : TPeak} (h : pkB p = true) : -16384 ≤ p.fStart ∧ p.fStart ≤ p.fTop ∧ p.fTop ≤ p.fEnd ∧ p.fEnd ≤ 16384 := by
 simp only [pkB, nrm, inB, Bool.and_eq_true, decide_eq_true_eq] at h
 omega
def pkF (p : TPeak) (n : Int) : Int :=
 if p.fTop = 0 ∨ n = p.fTop then 16384 else if n ≤ p.fStart ∨ p.fEnd ≤ n then 0
 else if n < p.fTop then divR ((n - p.fStart) * 16384) (p.fTop - p.fStart) else divR ((p.fEnd - n) * 16384) (p.fEnd - p.fTop)
theorem pkF_bnd {p : TPeak} (h : pkB p = true) (n : Int) : 0 ≤ pkF p n ∧ pkF p n ≤ 16384 := by
 obtain ⟨h1, h2, h3, h4⟩ := pk_facts h
 unfold pkF
 split
 ·omega
 ·split
  ·omega
  ·split
   ·exact ⟨le_divR (by omega) (by omega), divR_le (by omega) (by omega)⟩
   ·exact ⟨le_divR (by omega) (by omega), divR_le (by omega) (by omega)⟩
theorem ValidPeak_v (p : TPeak) : PC Tryz.prog 36 [.d p.D] (.d (.bool (pkB p))) [] := by
 refine pc_intro ttOk (by kernel_rfl) Tryz.func36 rfl (by kernel_rfl) (by kernel_rfl) (by kernel_rfl) (fun hw => ?_)
 (conv => whnf)
 (repeat' (first | (refine stg_ ?_) | (refine cl_ (isNormal_v _) ?_) | (refine br_ (fun hbr => ?_) (fun hbr => ?_))))
 all_goals ((refine RetOK.d rfl rfl ?_; conv => whnf); (try simp_all [pkB, inB]); (try (rw [Bool.eq_iff_iff]; simp)); (try omega))
theorem l30Peak_v (p : TPeak) : PC Tryz.prog 133 [.d p.D] (.d (.bool (pkB p))) [] := by
 refine pc_intro ttOk (by kernel_rfl) Tryz.func133 rfl (by kernel_rfl) (by kernel_rfl) (by kernel_rfl) (fun hw => ?_)
 (conv => whnf)
 (repeat' (first | (refine stg_ ?_) | (refine cl_ (l29Normal_v _) ?_) | (refine cl_ (l00In_v _ _ _) ?_) | (refine br_ (fun hbr => ?_) (fun hbr => ?_))))
 all_goals ((refine RetOK.d rfl rfl ?_; conv => whnf); (try simp_all [pkB]); (try (rw [Bool.eq_iff_iff]; simp)); (try omega))
theorem peakFactor_v (p : TPeak) (n : Int) (hp : pkB p = true) (hn : nrm n = true) : PC Tryz.prog 83 [.d p.D, .d (.int .i64 n)] (.d (.int .i64 (pkF p n))) [] := by
 refine pc_intro ttOk (by kernel_rfl) Tryz.func83 rfl (by kernel_rfl) (by kernel_rfl) (by kernel_rfl) (fun hw => ?_)
 obtain ⟨h1, h2, h3, h4⟩ := pk_facts hp
 simp only [nrm, Bool.and_eq_true, decide_eq_true_eq] at hn
 (conv => whnf)
 (repeat' (first | (refine stg_ ?_) | (refine cl_ (DivRound_v _ _) ?_) | (refine br_ (fun hbr => ?_) (fun hbr => ?_))))
 all_goals ((refine RetOK.d rfl rfl ?_; conv => whnf); rw [pkF]; first | (rw [if_pos (by omega)]; done) | (rw [if_neg (by omega), if_pos (by omega)]; done) | (rw [if_neg (by omega), if_neg (by omega), if_pos (by omega)]; done) | (rw [if_neg (by omega), if_neg (by omega), if_neg (by omega)]; done))
def pksB (xs : List TPeak) : Bool := decide (xs.length ≤ 3) && xs.all pkB
def nmsB (ns : List Int) (k : Nat) : Bool := decide (ns.length = k) && ns.all nrm
def mfK (xs : List TPeak) (ns : List Int) : Nat → Int
 | 0 => 16384
 | k + 1 => match xs[k]?, ns[k]? with
  | some p, some n => divR (mfK xs ns k * pkF p n) 16384
  | _, _ => mfK xs ns k
theorem mfK_at {xs : List TPeak} {ns : List Int} {k : Nat} {p : TPeak} {n : Int} (h1 : xs[k]? = some p) (h2 : ns[k]? = some n) : mfK xs ns (k + 1) = divR (mfK xs ns k * pkF p n) 16384 := by
 rw [mfK, h1, h2]
theorem mfK_bnd {xs : List TPeak} {ns : List Int} (h : xs.all pkB = true) : ∀ k, 0 ≤ mfK xs ns k ∧ mfK xs ns k ≤ 16384
 | 0 => by simp [mfK]
 | k + 1 => by
  have ih := mfK_bnd (ns := ns) h k
  rw [mfK]
  split
  ·rename_i p n h1 h2
   have hb := pkF_bnd (List.all_eq_true.1 h p (List.mem_of_getElem? h1)) n
   have e1 : 0 ≤ mfK xs ns k * pkF p n := Int.mul_nonneg ih.1 hb.1
   have e2 : mfK xs ns k * pkF p n ≤ 16384 * pkF p n := Int.mul_le_mul_of_nonneg_right ih.2 hb.1
   exact ⟨le_divR (by omega) (by omega), divR_le (by omega) (by omega)⟩
  ·exact ih
def mfV (xs : List TPeak) (ns : List Int) : Int := if pksB xs = true then (if nmsB ns xs.length = true then mfK xs ns xs.length else 0) else 0
def mfC (xs : List TPeak) (ns : List Int) : Int := if pksB xs = true then (if nmsB ns xs.length = true then 0 else 2) else 1
theorem nms_at {ns : List Int} {k j : Nat} {n : Int} (h : nmsB ns k = true) (hn : ns[j]? = some n) : nrm n = true := by
 simp only [nmsB, Bool.and_eq_true] at h
 exact List.all_eq_true.1 h.2 n (List.mem_of_getElem? hn)
theorem nms_len {ns : List Int} {k : Nat} (h : nmsB ns k = true) : ns.length = k := by
 simp only [nmsB, Bool.and_eq_true, decide_eq_true_eq] at h
 exact h.1
set_option maxHeartbeats 1000000 in
theorem ixPeak_v (xs : List TPeak) (f : Nat) (p : TPeak → Bool) (hf : ∀ x : TPeak, PC Tryz.prog f [.d x.D] (.d (.bool (p x))) []) :
  PC Tryz.prog 79 [.d (.lst (xs.map TPeak.D)), .fn (.func f) []] (.d (.int .i64 (fdx p xs 0))) [] := by
 refine pc_intro ttOk (by kernel_rfl) Tryz.func79 rfl (by kernel_rfl) (by kernel_rfl) (by kernel_rfl) (fun hw => ?_)
 have hL : (xs.map TPeak.D).length = xs.length := List.length_map _
 have hm : (xs.map TPeak.D).length ≤ 9223372036854775807 := hw.1.1
 (conv => whnf)
 refine LoopW.go (α := Nat) (fun k => [(0, .d (.lst (xs.map TPeak.D))), (1, .fn (.func f) []), (7, .d (.int .i64 (xs.map TPeak.D).length)), (8, .d (.int .i64 k))]) (fun k => [.gone]) (fun k => k ≤ xs.length ∧ fdx p xs 0 = fdx p (xs.drop k) k) (fun k => xs.length - k) 0 covT_ ?_ (fun k hk => ?_)
 ·exact ⟨by omega, rfl⟩
 obtain ⟨hk1, hk2⟩ := hk
 (conv => whnf)
 (refine br_ (fun h2 => ?_) (fun h2 => ?_) <;> (repeat (refine stg_ ?_)))
 ·obtain ⟨x, hx⟩ := at_lt' (xs := xs) (k := k) (by omega)
  rw [fdx_at hx] at hk2
  (repeat (refine stg_ ?_))
  (refine cla_ (hf x) ?_)
  (refine br_ (fun h3 => ?_) (fun h3 => ?_) <;> (repeat (refine stg_ ?_)))
  ·(refine RetOK.d rfl rfl ?_; conv => whnf)
   rw [hk2, if_pos h3]
  ·(repeat (refine stg_ ?_))
   exact NextW.go (k + 1) covT_ ⟨by omega, by rw [hk2, h3]; rfl⟩ (by omega)
 ·(refine RetOK.d rfl rfl ?_; conv => whnf)
  rw [hk2, fdx_end (by omega)]
theorem ctPeak_v (xs : List TPeak) (f : Nat) (p : TPeak → Bool) (hf : ∀ x : TPeak, PC Tryz.prog f [.d x.D] (.d (.bool (p x))) []) :
  PC Tryz.prog 34 [.d (.lst (xs.map TPeak.D)), .fn (.func f) []] (.d (.bool (xs.any p))) [] := by
 refine pc_intro ttOk (by kernel_rfl) Tryz.func34 rfl (by kernel_rfl) (by kernel_rfl) (by kernel_rfl) (fun hw => ?_)
 (conv => whnf)
 (refine cla_ (ixPeak_v xs f p hf) ?_)
 (refine RetOK.d rfl rfl ?_; conv => whnf)
 rw [← fdx_any p xs 0]
set_option maxHeartbeats 1000000 in
theorem ixint64_v (xs : List Int) (f : Nat) (p : Int → Bool) (hf : ∀ x : Int, PC Tryz.prog f [.d (.int .i64 x)] (.d (.bool (p x))) []) :
  PC Tryz.prog 121 [.d (.lst (xs.map (D.int .i64))), .fn (.func f) []] (.d (.int .i64 (fdx p xs 0))) [] := by
 refine pc_intro ttOk (by kernel_rfl) Tryz.func121 rfl (by kernel_rfl) (by kernel_rfl) (by kernel_rfl) (fun hw => ?_)
 have hL : (xs.map (D.int .i64)).length = xs.length := List.length_map _
 have hm : (xs.map (D.int .i64)).length ≤ 9223372036854775807 := hw.1.1
 (conv => whnf)
 refine LoopW.go (α := Nat) (fun k => [(0, .d (.lst (xs.map (D.int .i64)))), (1, .fn (.func f) []), (7, .d (.int .i64 (xs.map (D.int .i64)).length)), (8, .d (.int .i64 k))]) (fun k => [.gone]) (fun k => k ≤ xs.length ∧ fdx p xs 0 = fdx p (xs.drop k) k) (fun k => xs.length - k) 0 covT_ ?_ (fun k hk => ?_)
 ·exact ⟨by omega, rfl⟩
 obtain ⟨hk1, hk2⟩ := hk
 (conv => whnf)
 (refine br_ (fun h2 => ?_) (fun h2 => ?_) <;> (repeat (refine stg_ ?_)))
 ·obtain ⟨x, hx⟩ := at_lt' (xs := xs) (k := k) (by omega)
  rw [fdx_at hx] at hk2
  (repeat (refine stg_ ?_))
  (refine cla_ (hf x) ?_)
  (refine br_ (fun h3 => ?_) (fun h3 => ?_) <;> (repeat (refine stg_ ?_)))
  ·(refine RetOK.d rfl rfl ?_; conv => whnf)
   rw [hk2, if_pos h3]
  ·(repeat (refine stg_ ?_))
   exact NextW.go (k + 1) covT_ ⟨by omega, by rw [hk2, h3]; rfl⟩ (by omega)
 ·(refine RetOK.d rfl rfl ?_; conv => whnf)
  rw [hk2, fdx_end (by omega)]
theorem ctint64_v (xs : List Int) (f : Nat) (p : Int → Bool) (hf : ∀ x : Int, PC Tryz.prog f [.d (.int .i64 x)] (.d (.bool (p x))) []) :
  PC Tryz.prog 81 [.d (.lst (xs.map (D.int .i64))), .fn (.func f) []] (.d (.bool (xs.any p))) [] := by
 refine pc_intro ttOk (by kernel_rfl) Tryz.func81 rfl (by kernel_rfl) (by kernel_rfl) (by kernel_rfl) (fun hw => ?_)
 (conv => whnf)
 (refine cla_ (ixint64_v xs f p hf) ?_)
 (refine RetOK.d rfl rfl ?_; conv => whnf)
 rw [← fdx_any p xs 0]
theorem nmNeg_v (n : Int) : PC Tryz.prog 82 [.d (.int .i64 n)] (.d (.bool (!nrm n))) [] := by
 refine pc_intro ttOk (by kernel_rfl) Tryz.func82 rfl (by kernel_rfl) (by kernel_rfl) (by kernel_rfl) (fun hw => ?_)
 (conv => whnf)
 (repeat' (first | (refine stg_ ?_) | (refine cl_ (isNormal_v n) ?_) | (refine br_ (fun hbr => ?_) (fun hbr => ?_))))
 all_goals ((refine RetOK.d rfl rfl ?_; conv => whnf); try rfl)
theorem areNormals_v (ns : List Int) (k : Nat) : PC Tryz.prog 37 [.d (.lst (ns.map (D.int .i64))), .d (.int .i64 k)] (.d (.bool (nmsB ns k))) [] := by
 refine pc_intro ttOk (by kernel_rfl) Tryz.func37 rfl (by kernel_rfl) (by kernel_rfl) (by kernel_rfl) (fun hw => ?_)
 have hL : (ns.map (D.int .i64)).length = ns.length := List.length_map _
 (conv => whnf)
 (repeat' (first | (refine stg_ ?_) | (refine cla_ (ctint64_v ns _ (fun n => !nrm n) nmNeg_v) ?_) | (refine br_ (fun hbr => ?_) (fun hbr => ?_))))
 all_goals ((refine RetOK.d rfl rfl ?_; conv => whnf); simp only [nmsB, List.all_eq_not_any_not]; first | (rw [decide_eq_true (by omega)]; simp; done) | (rw [decide_eq_false (by omega)]; simp; done))
theorem l30Peaks_v (xs : List TPeak) : PC Tryz.prog 99 [.d (.lst (xs.map TPeak.D))] (.d (.bool (pksB xs))) [] := by
 refine pc_intro ttOk (by kernel_rfl) Tryz.func99 rfl (by kernel_rfl) (by kernel_rfl) (by kernel_rfl) (fun hw => ?_)
 have hL : (xs.map TPeak.D).length = xs.length := List.length_map _
 have hm : (xs.map TPeak.D).length ≤ 9223372036854775807 := hw.1.1
 (conv => whnf)
 refine LoopW.go (α := Nat) (fun k => [(0, .d (.lst (xs.map TPeak.D))), (3, .d (.int .i64 k))]) (fun k => [.gone]) (fun k => k ≤ xs.length ∧ xs.all pkB = (xs.drop k).all pkB) (fun k => xs.length - k) 0 covT_ ?_ (fun k hk => ?_)
 ·exact ⟨by omega, rfl⟩
 obtain ⟨hk1, hk2⟩ := hk
 (conv => whnf)
 (refine br_ (fun h2 => ?_) (fun h2 => ?_) <;> (repeat (refine stg_ ?_)))
 ·obtain ⟨x, hx⟩ := at_lt' (xs := xs) (k := k) (by omega)
  rw [drop_at hx, List.all_cons] at hk2
  (repeat' (first | (refine stg_ ?_) | (refine cla_ (l30Peak_v x) ?_) | (refine br_ (fun hbr => ?_) (fun hbr => ?_))))
  all_goals first | ((refine RetOK.d rfl rfl ?_; conv => whnf); simp_all [pksB]; done) | exact NextW.go (k + 1) covT_ ⟨by omega, by simp_all⟩ (by omega)
 ·(refine RetOK.d rfl rfl ?_; conv => whnf)
  rw [pksB, hk2, List.drop_eq_nil_of_le (by omega), List.all_nil, Bool.and_true]
  congr 1
  rw [Bool.eq_iff_iff]; simp; try omega
def ltI : Option Int → Int → Bool
 | none, _ => true
 | some q, x => decide (q < x)
def ltG : Option TGlyphDelta → TGlyphDelta → Bool
 | none, _ => true
 | some q, x => decide (q.fGlyph < x.fGlyph)
def riG : Option Int → List Int → Bool
 | _, [] => true
 | o, x :: t => ltI o x && riG (some x) t
def knG : Option Int → List Int → Bool
 | _, [] => true
 | o, x :: t => inB x 0 719 && (ltI o x && knG (some x) t)
def pvI (xs : List Int) (k : Nat) : Option Int := match k with | 0 => none | k + 1 => xs[k]?
theorem riG_at {xs : List Int} {k : Nat} {x : Int} (hx : xs[k]? = some x) : riG (pvI xs k) (xs.drop k) = (ltI (pvI xs k) x && riG (pvI xs (k + 1)) (xs.drop (k + 1))) := by
 rw [drop_at hx, riG, pvI, hx]
theorem knG_at {xs : List Int} {k : Nat} {x : Int} (hx : xs[k]? = some x) : knG (pvI xs k) (xs.drop k) = (inB x 0 719 && (ltI (pvI xs k) x && knG (pvI xs (k + 1)) (xs.drop (k + 1)))) := by
 rw [drop_at hx, knG, pvI, hx]
theorem pvI_pos {xs : List Int} {k : Nat} {x : Int} (h : 0 < k) (hx : xs[k - 1]? = some x) : pvI xs k = some x := by
 obtain ⟨j, rfl⟩ : ∃ j, k = j + 1 := ⟨k - 1, by omega⟩
 exact hx
theorem riG_end {xs : List Int} {k : Nat} {o : Option Int} (hk : xs.length ≤ k) : riG o (xs.drop k) = true := by
 rw [List.drop_eq_nil_of_le hk]; rfl
theorem knG_end {xs : List Int} {k : Nat} {o : Option Int} (hk : xs.length ≤ k) : knG o (xs.drop k) = true := by
 rw [List.drop_eq_nil_of_le hk]; rfl
theorem riG_lt : ∀ {xs : List Int} {q : Int}, riG (some q) xs = true → ∀ x ∈ xs, q < x
 | [], _, _, x, h => by simp at h
 | y :: t, q, h, x, hx => by
  simp only [riG, ltI, Bool.and_eq_true, decide_eq_true_eq] at h
  rcases List.mem_cons.1 hx with rfl | hx
  ·exact h.1
  ·have := riG_lt h.2 x hx
   omega
theorem knG_ri : ∀ (o : Option Int) (xs : List Int), knG o xs = true → riG o xs = true ∧ ∀ x ∈ xs, 0 ≤ x ∧ x ≤ 719
 | _, [], _ => ⟨rfl, by simp⟩
 | o, y :: t, h => by
  simp only [knG, inB, Bool.and_eq_true, decide_eq_true_eq] at h
  have ih := knG_ri (some y) t h.2.2
  refine ⟨by rw [riG, h.2.1, ih.1]; rfl, fun x hx => ?_⟩
  rcases List.mem_cons.1 hx with rfl | hx
  ·exact h.1
  ·exact ih.2 x hx
theorem ri_knG : ∀ (o : Option Int) (xs : List Int), riG o xs = true → (∀ x ∈ xs, 0 ≤ x ∧ x ≤ 719) → knG o xs = true
 | _, [], _, _ => rfl
 | o, y :: t, h, hb => by
  simp only [riG, Bool.and_eq_true] at h
  have h1 := hb y (by simp)
  rw [knG, h.1, ri_knG (some y) t h.2 (fun x hx => hb x (by simp [hx]))]
  simp [inB]; omega
theorem riG_last : ∀ {xs : List Int} {o : Option Int} {z : Int}, riG o xs = true → xs[xs.length - 1]? = some z → ∀ x ∈ xs, x ≤ z
 | [], _, _, _, _, x, h => by simp at h
 | [y], o, z, _, hz, x, hx => by simp at hz hx; omega
 | y :: w :: t, o, z, h, hz, x, hx => by
  rw [riG, Bool.and_eq_true] at h
  have hz' : (w :: t)[(w :: t).length - 1]? = some z := by simpa using hz
  have ih := riG_last (xs := w :: t) h.2 hz'
  rcases List.mem_cons.1 hx with rfl | hx
  ·have h1 := riG_lt h.2 w (by simp)
   have h2 := ih w (by simp)
   omega
  ·exact ih x hx
theorem riG_first {xs : List Int} {a : Int} (h : riG none xs = true) (ha : xs[0]? = some a) : ∀ x ∈ xs, a ≤ x := by
 cases xs with
 | nil => simp at ha
 | cons y t =>
  simp at ha
  subst ha
  intro x hx
  rw [riG, Bool.and_eq_true] at h
  rcases List.mem_cons.1 hx with rfl | hx
  ·exact Int.le_refl _
  ·have := riG_lt h.2 x hx
   omega
theorem kn_eq {xs : List Int} {a z : Int} (ha : xs[0]? = some a) (hz : xs[xs.length - 1]? = some z) : knG none xs = (riG none xs && (decide (0 ≤ a) && decide (z ≤ 719))) := by
 rw [Bool.eq_iff_iff]
 simp only [Bool.and_eq_true, decide_eq_true_eq]
 constructor
 ·intro h
  obtain ⟨h1, h2⟩ := knG_ri _ _ h
  exact ⟨h1, (h2 a (List.mem_of_getElem? ha)).1, (h2 z (List.mem_of_getElem? hz)).2⟩
 ·rintro ⟨h1, h2, h3⟩
  refine ri_knG _ _ h1 (fun x hx => ?_)
  have := riG_first h1 ha x hx
  have := riG_last h1 hz x hx
  omega
def gdB (d : TGlyphDelta) : Bool := inB d.fGlyph 0 39 && (knG none d.fKnots && (decide (d.fKnots.length = d.fMoves.length) && (d.fMoves.all pntB && inB d.fAdvance (-262144) 262144)))
def dsG : Option TGlyphDelta → List TGlyphDelta → Bool
 | _, [] => true
 | o, x :: t => gdB x && (ltG o x && dsG (some x) t)
theorem dsG_at {xs : List TGlyphDelta} {k : Nat} {x : TGlyphDelta} (hx : xs[k]? = some x) : dsG (pv xs k) (xs.drop k) = (gdB x && (ltG (pv xs k) x && dsG (pv xs (k + 1)) (xs.drop (k + 1)))) := by
 rw [drop_at hx, dsG, pv_succ, hx]
theorem dsG_end {xs : List TGlyphDelta} {k : Nat} {o : Option TGlyphDelta} (hk : xs.length ≤ k) : dsG o (xs.drop k) = true := by
 rw [List.drop_eq_nil_of_le hk]; rfl
theorem dsG_all : ∀ {xs : List TGlyphDelta} {o : Option TGlyphDelta}, dsG o xs = true → ∀ x ∈ xs, gdB x = true
 | [], _, _, x, h => by simp at h
 | y :: t, o, h, x, hx => by
  simp only [dsG, Bool.and_eq_true] at h
  rcases List.mem_cons.1 hx with rfl | hx
  ·exact h.1
  ·exact dsG_all h.2.2 x hx
def maB (n : Nat) (m : TMaster) : Bool := decide (m.fPeaks.length = n) && (decide (m.fDeltas.length ≤ 20) && (m.fPeaks.all pkB && dsG none m.fDeltas))
def wfB (v : TVariation) : Bool := axsB v.fAxes && (decide (v.fMasters.length ≤ 8) && v.fMasters.all (maB v.fAxes.length))
def srt (xs : List Int) : Prop := ∀ (i j : Nat) (x y : Int), i < j → xs[i]? = some x → xs[j]? = some y → x < y
theorem ri_srt : ∀ {o : Option Int} {xs : List Int}, riG o xs = true → srt xs
 | _, [], _ => fun i j x y _ h _ => by simp at h
 | o, z :: t, h => by
  simp only [riG, Bool.and_eq_true] at h
  intro i j x y hij hi hj
  cases j with
  | zero => omega
  | succ j =>
   cases i with
   | zero =>
    simp at hi hj
    subst hi
    exact riG_lt h.2 y (List.mem_of_getElem? hj)
   | succ i => exact ri_srt h.2 i j x y (by omega) (by simpa using hi) (by simpa using hj)
theorem srt_take {xs : List Int} (h : srt xs) (n : Nat) : srt (xs.take n) := fun i j x y hij hi hj => by
 rw [List.getElem?_take] at hi hj
 split at hi
 ·split at hj
  ·exact h i j x y hij hi hj
  ·cases hj
 ·cases hi
theorem srt_drop {xs : List Int} (h : srt xs) (n : Nat) : srt (xs.drop n) := fun i j x y hij hi hj => by
 rw [List.getElem?_drop] at hi hj
 exact h _ _ x y (by omega) hi hj
def cl (xs : List Int) (b : Int) : Nat := (xs.takeWhile (fun x => decide (x < b))).length
theorem cl_le (xs : List Int) (b : Int) : cl xs b ≤ xs.length := by
 unfold cl
 exact (List.takeWhile_sublist _).length_le
theorem cl_lt : ∀ {xs : List Int} {b : Int} {j : Nat} {x : Int}, j < cl xs b → xs[j]? = some x → x < b
 | [], b, j, x, h, _ => by simp [cl] at h
 | y :: t, b, j, x, h, hx => by
  unfold cl at h
  rw [List.takeWhile_cons] at h
  split at h
  ·rename_i hy
   cases j with
   | zero => simp at hx; subst hx; simpa using hy
   | succ j => exact cl_lt (xs := t) (by unfold cl; simpa using h) (by simpa using hx)
  ·simp at h
theorem cl_at : ∀ {xs : List Int} {b : Int} {x : Int}, xs[cl xs b]? = some x → b ≤ x
 | [], b, x, h => by simp [cl] at h
 | y :: t, b, x, h => by
  unfold cl at h
  rw [List.takeWhile_cons] at h
  split at h
  ·exact cl_at (xs := t) (by unfold cl; simpa using h)
  ·rename_i hy
   simp at h hy
   subst h
   exact hy
theorem cl_ge {xs : List Int} (hs : srt xs) {b : Int} {j : Nat} {x : Int} (h : cl xs b ≤ j) (hx : xs[j]? = some x) : b ≤ x := by
 have hj := (List.getElem?_eq_some_iff.1 hx).1
 obtain ⟨y, hy⟩ := at_lt (xs := xs) (k := cl xs b) (by omega)
 have h1 := cl_at hy
 rcases Nat.lt_or_ge (cl xs b) j with h2 | h2
 ·have := hs _ _ y x h2 hy hx; omega
 ·obtain rfl : j = cl xs b := by omega
  rw [hx] at hy; cases hy; exact h1
theorem cl_mono {xs : List Int} (hs : srt xs) {a b : Int} (h : a ≤ b) : cl xs a ≤ cl xs b := by
 rcases Nat.lt_or_ge (cl xs b) (cl xs a) with h1 | h1
 ·have := cl_le xs a
  obtain ⟨y, hy⟩ := at_lt (xs := xs) (k := cl xs b) (by omega)
  have h2 := cl_lt h1 hy
  have h3 := cl_at hy
  omega
 ·exact h1
def fd (xs : List Int) (b : Int) : Bool := xs[cl xs b]? == some b
def bt0 (x a b c d : Int) : Int := if a = b then (if c = d then c else 0) else if x ≤ a then c else if b ≤ x then d else c + divR ((x - a) * (d - c)) (b - a)
def bt (x a b c d : Int) : Int := if b < a then bt0 x b a d c else bt0 x a b c d
def atK (ks : List TKnot) (n : Nat) : TPt := ((ks[n]?).map (·.fAt)).getD pt0
def atB (bs : List TPt) (n : Nat) : TPt := (bs[n]?).getD pt0
def atF (fs : List Int) (n : Nat) : Int := (fs[n]?).getD 0
def mv1 (ks : List TKnot) (b : Nat) (fs : List Int) (bs : List TPt) (i : Nat) : TPt :=
  if fs.length = 0 then pt0 else if fd fs (b + i : Nat) = true then atB bs (cl fs (b + i : Nat)) else
  ⟨bt (atK ks i).fX (atK ks (atF fs ((cl fs (b + i : Nat) + fs.length - 1) % fs.length) - b).toNat).fX (atK ks (atF fs (cl fs (b + i : Nat) % fs.length) - b).toNat).fX (atB bs ((cl fs (b + i : Nat) + fs.length - 1) % fs.length)).fX (atB bs (cl fs (b + i : Nat) % fs.length)).fX,
   bt (atK ks i).fY (atK ks (atF fs ((cl fs (b + i : Nat) + fs.length - 1) % fs.length) - b).toNat).fY (atK ks (atF fs (cl fs (b + i : Nat) % fs.length) - b).toNat).fY (atB bs ((cl fs (b + i : Nat) + fs.length - 1) % fs.length)).fY (atB bs (cl fs (b + i : Nat) % fs.length)).fY⟩
def slF {α : Type} (ks : List Int) (xs : List α) (b n : Nat) : List α := (xs.drop (cl ks b)).take (cl ks (b + n : Nat) - cl ks b)
def rsL (ks : List TKnot) (b : Nat) (fs : List Int) (bs : List TPt) (k : Nat) : List TPt := (List.range k).map (mv1 ks b fs bs)
theorem rsL_succ (ks : List TKnot) (b : Nat) (fs : List Int) (bs : List TPt) (k : Nat) : rsL ks b fs bs (k + 1) = rsL ks b fs bs k ++ [mv1 ks b fs bs k] := by simp [rsL, List.range_succ]
theorem rsL_len (ks : List TKnot) (b : Nat) (fs : List Int) (bs : List TPt) (k : Nat) : (rsL ks b fs bs k).length = k := by simp [rsL]
def inL (ns : List Int) (ms : List TPt) : Nat → List TLoop → List TPt
 | _, [] => []
 | b, l :: t => rsL l.fKnots b (slF ns ns b l.fKnots.length) (slF ns ms b l.fKnots.length) l.fKnots.length ++ inL ns ms (b + l.fKnots.length) t
def cnK : List TLoop → Nat
 | [] => 0
 | l :: t => l.fKnots.length + cnK t
theorem cnK_snoc : ∀ (ls : List TLoop) (l : TLoop), cnK (ls ++ [l]) = cnK ls + l.fKnots.length
 | [], l => by simp [cnK]
 | x :: t, l => by simp only [List.cons_append, cnK, cnK_snoc t l]; omega
theorem inL_snoc (ns : List Int) (ms : List TPt) : ∀ (b : Nat) (ls : List TLoop) (l : TLoop), inL ns ms b (ls ++ [l]) = inL ns ms b ls ++ rsL l.fKnots (b + cnK ls) (slF ns ns (b + cnK ls) l.fKnots.length) (slF ns ms (b + cnK ls) l.fKnots.length) l.fKnots.length
 | b, [], l => by simp [inL, cnK]
 | b, x :: t, l => by
  simp only [List.cons_append, inL, inL_snoc ns ms _ t l, cnK, List.append_assoc]
  rw [show b + x.fKnots.length + cnK t = b + (x.fKnots.length + cnK t) by omega]
theorem inL_len (ns : List Int) (ms : List TPt) : ∀ (b : Nat) (ls : List TLoop), (inL ns ms b ls).length = cnK ls
 | b, [] => rfl
 | b, l :: t => by simp only [inL, cnK, List.length_append, rsL_len, inL_len ns ms _ t]
theorem cnK_le : ∀ {ls : List TLoop}, (∀ l ∈ ls, loopB l = true) → cnK ls ≤ 60 * ls.length
 | [], _ => by simp [cnK]
 | l :: t, h => by
  have h1 := (loop_in (h l (by simp))).2.1
  have h2 := cnK_le (ls := t) (fun x hx => h x (by simp [hx]))
  simp only [cnK, List.length_cons]; omega
theorem cnK_take : ∀ (ls : List TLoop) (k : Nat), cnK (ls.take k) ≤ cnK ls
 | [], k => by simp [cnK]
 | l :: t, 0 => by simp [cnK]
 | l :: t, k + 1 => by
  have := cnK_take t k
  simp only [List.take_succ_cons, cnK]; omega
theorem slF_srt {ns : List Int} (h : srt ns) (b n : Nat) : srt (slF ns ns b n) := srt_take (srt_drop h _) _
theorem slF_len {α : Type} {ns : List Int} {xs : List α} (h : ns.length = xs.length) (b n : Nat) (hm : cl ns b ≤ cl ns (b + n : Nat)) : (slF ns xs b n).length = cl ns (b + n : Nat) - cl ns b := by
 have := cl_le ns (b + n : Nat)
 simp only [slF, List.length_take, List.length_drop]; omega
theorem slF_in {ns : List Int} (h : srt ns) {b n j : Nat} {x : Int} (hx : (slF ns ns b n)[j]? = some x) : (b : Int) ≤ x ∧ x < ((b + n : Nat) : Int) := by
 rw [slF, List.getElem?_take] at hx
 split at hx
 ·rename_i hj
  rw [List.getElem?_drop] at hx
  exact ⟨cl_ge h (by omega) hx, cl_lt (by omega) hx⟩
 ·cases hx

theorem ri_one (xs : List Int) : riG none xs = riG (pvI xs 1) (xs.drop 1) := by cases xs <;> simp [riG, pvI, ltI]
theorem isGlyphNumber_v (n : Int) : PC Tryz.prog 105 [.d (.int .i64 n)] (.d (.bool (inB n 0 39))) [] := by
 refine pc_intro ttOk (by kernel_rfl) Tryz.func105 rfl (by kernel_rfl) (by kernel_rfl) (by kernel_rfl) (fun hw => ?_)
 (conv => whnf)
 (repeat' (first | (refine stg_ ?_) | fail | (refine br_ (fun hbr => ?_) (fun hbr => ?_))))
 all_goals ((refine RetOK.d rfl rfl ?_; conv => whnf); (try simp_all [inB]); (try (rw [Bool.eq_iff_iff]; simp)); (try omega))
theorem increasing_v (xs : List Int) : PC Tryz.prog 40 [.d (.lst (xs.map (D.int .i64)))] (.d (.bool (riG none xs))) [] := by
 refine pc_intro ttOk (by kernel_rfl) Tryz.func40 rfl (by kernel_rfl) (by kernel_rfl) (by kernel_rfl) (fun hw => ?_)
 have hL : (xs.map (D.int .i64)).length = xs.length := List.length_map _
 have hm : (xs.map (D.int .i64)).length ≤ 9223372036854775807 := hw.1.1
 (conv => whnf)
 refine LoopW.go (α := Nat) (fun k => [(0, .d (.lst (xs.map (D.int .i64)))), (3, .d (.int .i64 k))]) (fun k => [.gone]) (fun k => 1 ≤ k ∧ k ≤ xs.length + 1 ∧ riG none xs = riG (pvI xs k) (xs.drop k)) (fun k => xs.length - k) 1 covT_ ?_ (fun k hk => ?_)
 ·exact ⟨by omega, by omega, ri_one xs⟩
 obtain ⟨hk0, hk1, hk2⟩ := hk
 (conv => whnf)
 (refine br_ (fun h2 => ?_) (fun h2 => ?_) <;> (repeat (refine stg_ ?_)))
 ·obtain ⟨x, hx⟩ := at_lt' (xs := xs) (k := k) (by omega)
  obtain ⟨p, hp⟩ := at_lt' (xs := xs) (k := k - 1) (by omega)
  have hp' : (xs.map (D.int .i64))[((k : Int) - 1).toNat]? = some (.int .i64 p) := by
   have : ((k : Int) - 1).toNat = k - 1 := by omega
   rw [this, List.getElem?_map, hp]; rfl
  rw [riG_at hx, pvI_pos hk0 hp, ltI] at hk2
  (repeat' (first | (refine stg_ ?_) | (refine IxW.at (by omega) hp' ?_; (conv => whnf)) | (refine br_ (fun hbr => ?_) (fun hbr => ?_))))
  all_goals first | ((refine RetOK.d rfl rfl ?_; conv => whnf); rw [hk2]; simp_all; done) | ((refine RetOK.d rfl rfl ?_; conv => whnf); rw [hk2, decide_eq_false (by omega)]; rfl) | exact NextW.go (k + 1) covT_ ⟨by omega, by omega, by rw [hk2, decide_eq_true (by omega)]; rfl⟩ (by omega)
 ·(refine RetOK.d rfl rfl ?_; conv => whnf)
  rw [hk2, riG_end (by omega)]
set_option maxHeartbeats 2000000 in
theorem validDelta_v (d : TGlyphDelta) : PC Tryz.prog 61 [.d d.D] (.d (.bool (gdB d))) [] := by
 refine pc_intro ttOk (by kernel_rfl) Tryz.func61 rfl (by kernel_rfl) (by kernel_rfl) (by kernel_rfl) (fun hw => ?_)
 have hL : (d.fKnots.map (D.int .i64)).length = d.fKnots.length := List.length_map _
 have hL2 : (d.fMoves.map TPt.D).length = d.fMoves.length := List.length_map _
 have hm : (d.fKnots.map (D.int .i64)).length ≤ 9223372036854775807 := hw.1.2.1.1
 have c1 := isGlyphNumber_v d.fGlyph
 have c2 := increasing_v d.fKnots
 have c3 := validPts_v d.fMoves
 have hF : knG none d.fKnots = true → riG none d.fKnots = true := fun h => (knG_ri _ _ h).1
 have hG : gdB d = (inB d.fGlyph 0 39 && (knG none d.fKnots && (decide (d.fKnots.length = d.fMoves.length) && (d.fMoves.all pntB && inB d.fAdvance (-262144) 262144)))) := rfl
 cases hg : inB d.fGlyph 0 39 <;> rw [hg] at c1 hG
 ·(conv => whnf)
  (repeat' (first | (refine stg_ ?_) | (refine cla_ (c1) ?_) | (refine cla_ (c2) ?_) | (refine cla_ (c3) ?_) | (refine br_ (fun hbr => ?_) (fun hbr => ?_))))
  all_goals ((refine RetOK.d rfl rfl ?_; conv => whnf); rw [hG]; rfl)
 cases hr : riG none d.fKnots <;> rw [hr] at c2 hF
 ·have hk : knG none d.fKnots = false := by
   cases hk : knG none d.fKnots
   ·rfl
   ·exact absurd (hF hk) (by decide)
  rw [hk] at hG
  (conv => whnf)
  (repeat' (first | (refine stg_ ?_) | (refine cla_ (c1) ?_) | (refine cla_ (c2) ?_) | (refine cla_ (c3) ?_) | (refine br_ (fun hbr => ?_) (fun hbr => ?_))))
  all_goals ((refine RetOK.d rfl rfl ?_; conv => whnf); rw [hG]; rfl)
 by_cases hq : d.fKnots.length = d.fMoves.length
 rotate_left
 ·rw [decide_eq_false hq] at hG
  (conv => whnf)
  (repeat' (first | (refine stg_ ?_) | (refine cla_ (c1) ?_) | (refine cla_ (c2) ?_) | (refine cla_ (c3) ?_) | (refine br_ (fun hbr => ?_) (fun hbr => ?_))))
  all_goals first | (exfalso; omega) | ((refine RetOK.d rfl rfl ?_; conv => whnf); rw [hG]; simp)
 rw [decide_eq_true hq] at hG
 cases hp : d.fMoves.all pntB <;> rw [hp] at c3 hG
 ·(conv => whnf)
  (repeat' (first | (refine stg_ ?_) | (refine cla_ (c1) ?_) | (refine cla_ (c2) ?_) | (refine cla_ (c3) ?_) | (refine br_ (fun hbr => ?_) (fun hbr => ?_))))
  all_goals first | (exfalso; omega) | ((refine RetOK.d rfl rfl ?_; conv => whnf); rw [hG]; simp)
 rcases Nat.eq_zero_or_pos d.fKnots.length with h0 | h0
 ·have hkn : d.fKnots = [] := List.eq_nil_of_length_eq_zero h0
  have e1 : knG none d.fKnots = true := by rw [hkn]; rfl
  rw [e1] at hG
  (conv => whnf)
  (repeat' (first | (refine stg_ ?_) | (refine cla_ (c1) ?_) | (refine cla_ (c2) ?_) | (refine cla_ (c3) ?_) | (refine br_ (fun hbr => ?_) (fun hbr => ?_))))
  all_goals first | (exfalso; omega) | ((refine RetOK.d rfl rfl ?_; conv => whnf); rw [hG]; (try simp_all [inB]); (try (rw [Bool.eq_iff_iff]; simp)); (try omega))
 ·obtain ⟨a, ha⟩ := at_lt' (xs := d.fKnots) (k := 0) h0
  obtain ⟨z, hz⟩ := at_lt' (xs := d.fKnots) (k := d.fKnots.length - 1) (by omega)
  have hK := kn_eq ha hz
  rw [hK, hr] at hG
  have ha' : (d.fKnots.map (D.int .i64))[0]? = some (.int .i64 a) := by rw [List.getElem?_map, ha]; rfl
  have hz' : (d.fKnots.map (D.int .i64))[(((d.fKnots.map (D.int .i64)).length : Int) - 1).toNat]? = some (.int .i64 z) := by
   have : (((d.fKnots.map (D.int .i64)).length : Int) - 1).toNat = d.fKnots.length - 1 := by omega
   rw [this, List.getElem?_map, hz]; rfl
  (conv => whnf)
  (repeat' (first | (refine stg_ ?_) | (refine cla_ (c1) ?_) | (refine cla_ (c2) ?_) | (refine cla_ (c3) ?_) | (refine IxW.at (by omega) hz' ?_; (conv => whnf)) | (refine br_ (fun hbr => ?_) (fun hbr => ?_))))
  all_goals first | (exfalso; omega) | skip
  all_goals ((refine RetOK.d rfl rfl ?_; conv => whnf); rw [hG])
  all_goals first | (rw [decide_eq_false (show ¬ 0 ≤ a by omega)]; simp; done) | (rw [decide_eq_false (show ¬ z ≤ 719 by omega)]; simp; done) | (rw [decide_eq_true (show 0 ≤ a by omega), decide_eq_true (show z ≤ 719 by omega)]; (try simp_all [inB]); (try (rw [Bool.eq_iff_iff]; simp)); (try omega))
set_option maxHeartbeats 1000000 in
theorem l30Knots_v (ks : List Int) (ms : List TPt) : PC Tryz.prog 134 [.d (.lst (ks.map (D.int .i64))), .d (.lst (ms.map TPt.D))] (.d (.bool (knG none ks && (decide (ks.length = ms.length) && ms.all pntB)))) [] := by
 refine pc_intro ttOk (by kernel_rfl) Tryz.func134 rfl (by kernel_rfl) (by kernel_rfl) (by kernel_rfl) (fun hw => ?_)
 have hL : (ks.map (D.int .i64)).length = ks.length := List.length_map _
 have hL2 : (ms.map TPt.D).length = ms.length := List.length_map _
 have hm : (ks.map (D.int .i64)).length ≤ 9223372036854775807 := hw.1.1
 (conv => whnf)
 refine LoopW.go (α := Nat) (fun k => [(0, .d (.lst (ks.map (D.int .i64)))), (1, .d (.lst (ms.map TPt.D))), (5, .d (.int .i64 k))]) (fun k => [.gone]) (fun k => k ≤ ks.length ∧ knG none ks = knG (pvI ks k) (ks.drop k)) (fun k => ks.length - k) 0 covT_ ?_ (fun k hk => ?_)
 ·exact ⟨by omega, rfl⟩
 obtain ⟨hk1, hk2⟩ := hk
 (conv => whnf)
 (refine br_ (fun h2 => ?_) (fun h2 => ?_) <;> (repeat (refine stg_ ?_)))
 ·obtain ⟨x, hx⟩ := at_lt' (xs := ks) (k := k) (by omega)
  rw [knG_at hx] at hk2
  rcases Nat.eq_zero_or_pos k with rfl | h0
  ·rw [show pvI ks 0 = none from rfl, ltI, Bool.true_and] at hk2
   (repeat' (first | (refine stg_ ?_) | (refine cl_ (l00In_v _ _ _) ?_) | (refine br_ (fun hbr => ?_) (fun hbr => ?_))))
   all_goals first | (exfalso; omega) | ((refine RetOK.d rfl rfl ?_; conv => whnf); simp_all; done) | skip
   all_goals exact NextW.go (0 + 1) covT_ ⟨by omega, by simp_all⟩ (by omega)
  ·obtain ⟨p, hp⟩ := at_lt' (xs := ks) (k := k - 1) (by omega)
   have hp' : (ks.map (D.int .i64))[((k : Int) - 1).toNat]? = some (.int .i64 p) := by
    have : ((k : Int) - 1).toNat = k - 1 := by omega
    rw [this, List.getElem?_map, hp]; rfl
   rw [pvI_pos h0 hp, ltI] at hk2
   (repeat' (first | (refine stg_ ?_) | (refine cl_ (l00In_v _ _ _) ?_) | (refine IxW.at (by omega) hp' ?_; (conv => whnf)) | (refine br_ (fun hbr => ?_) (fun hbr => ?_))))
   all_goals first | (exfalso; omega) | ((refine RetOK.d rfl rfl ?_; conv => whnf); simp_all; done) | ((refine RetOK.d rfl rfl ?_; conv => whnf); rw [hk2, decide_eq_false (show ¬ p < x by omega)]; simp; done) | skip
   all_goals exact NextW.go (k + 1) covT_ ⟨by omega, by rw [hk2, decide_eq_true (show p < x by omega)]; simp_all⟩ (by omega)
 ·rw [knG_end (by omega)] at hk2
  (repeat' (first | (refine stg_ ?_) | (refine cla_ (l13Points_v ms) ?_) | (refine br_ (fun hbr => ?_) (fun hbr => ?_))))
  all_goals ((refine RetOK.d rfl rfl ?_; conv => whnf); rw [hk2]; first | (simp_all; done) | (rw [decide_eq_true (show ks.length = ms.length by omega)]; simp_all; done) | (rw [decide_eq_false (show ¬ ks.length = ms.length by omega)]; simp_all; done))
theorem l30Delta_v (d : TGlyphDelta) : PC Tryz.prog 100 [.pX d.D] (.d (.bool (gdB d))) [] := by
 refine pc_intro ttOk (by kernel_rfl) Tryz.func100 rfl (by kernel_rfl) (by kernel_rfl) (by kernel_rfl) (fun hw => ?_)
 have hG : gdB d = (inB d.fGlyph 0 39 && ((knG none d.fKnots && (decide (d.fKnots.length = d.fMoves.length) && d.fMoves.all pntB)) && inB d.fAdvance (-262144) 262144)) := by rw [gdB]; simp only [Bool.and_assoc]
 rw [hG]
 have c1 := l00In_v d.fGlyph 0 39
 have c2 := l30Knots_v d.fKnots d.fMoves
 have c3 := l00In_v d.fAdvance (-262144) 262144
 generalize inB d.fGlyph 0 39 = A at *
 generalize (knG none d.fKnots && (decide (d.fKnots.length = d.fMoves.length) && d.fMoves.all pntB)) = B at *
 generalize inB d.fAdvance (-262144) 262144 = C at *
 clear hG
 cases A <;> cases B <;> cases C <;> ((conv => whnf); (repeat' (first | (refine stg_ ?_) | (refine cla_ (c1) ?_) | (refine cla_ (c2) ?_) | (refine cla_ (c3) ?_) | (refine RegD.auto (by kernel_rfl) ?_; conv => whnf) | (refine br_ (fun hbr => ?_) (fun hbr => ?_)))); all_goals ((refine RetOK.d rfl rfl ?_; conv => whnf); rfl))
theorem wfN_v (p : TPeak) : PC Tryz.prog 60 [.d p.D] (.d (.bool (!pkB p))) [] := by
 refine pc_intro ttOk (by kernel_rfl) Tryz.func60 rfl (by kernel_rfl) (by kernel_rfl) (by kernel_rfl) (fun hw => ?_)
 (conv => whnf)
 (repeat' (first | (refine stg_ ?_) | (refine cla_ (ValidPeak_v p) ?_) | (refine br_ (fun hbr => ?_) (fun hbr => ?_))))
 all_goals ((refine RetOK.d rfl rfl ?_; conv => whnf); try rfl)
set_option maxHeartbeats 4000000 in
theorem wellFormed_v (v : TVariation) : PC Tryz.prog 21 [.d v.D] (.d (.bool (wfB v))) [] := by
 refine pc_intro ttOk (by kernel_rfl) Tryz.func21 rfl (by kernel_rfl) (by kernel_rfl) (by kernel_rfl) (fun hw => ?_)
 have hL : (v.fMasters.map TMaster.D).length = v.fMasters.length := List.length_map _
 have hLa : (v.fAxes.map TAxis.D).length = v.fAxes.length := List.length_map _
 have hm : (v.fMasters.map TMaster.D).length ≤ 9223372036854775807 := hw.1.2.1.1
 have c0 := ValidAxes_v v.fAxes
 have hG : wfB v = (axsB v.fAxes && (decide (v.fMasters.length ≤ 8) && v.fMasters.all (maB v.fAxes.length))) := rfl
 cases hB : axsB v.fAxes <;> rw [hB] at c0 hG
 ·(conv => whnf)
  (repeat' (first | (refine stg_ ?_) | (refine cla_ (c0) ?_) | (refine br_ (fun hbr => ?_) (fun hbr => ?_))))
  all_goals ((refine RetOK.d rfl rfl ?_; conv => whnf); rw [hG]; rfl)
 by_cases h8 : v.fMasters.length ≤ 8
 rotate_left
 ·rw [decide_eq_false h8] at hG
  (conv => whnf)
  (repeat' (first | (refine stg_ ?_) | (refine cla_ (c0) ?_) | (refine br_ (fun hbr => ?_) (fun hbr => ?_))))
  all_goals first | (exfalso; omega) | ((refine RetOK.d rfl rfl ?_; conv => whnf); rw [hG]; rfl)
 rw [decide_eq_true h8, Bool.true_and, Bool.true_and] at hG
 (conv => whnf)
 (repeat' (first | (refine stg_ ?_) | (refine cla_ (c0) ?_) | (refine br_ (fun hbr => ?_) (fun hbr => ?_))))
 all_goals first | (exfalso; omega) | skip
 refine LoopW.go (α := Nat) (fun k => [(1, .pB 1 [] 0), (18, .d (.lst (v.fMasters.map TMaster.D))), (19, .d (.int .i64 (v.fMasters.map TMaster.D).length)), (20, .d (.int .i64 k))]) (fun k => [.gone, .box (.d v.D)]) (fun k => k ≤ v.fMasters.length ∧ wfB v = (v.fMasters.drop k).all (maB v.fAxes.length)) (fun k => v.fMasters.length - k) 0 covT_ ?_ (fun k hk => ?_)
 ·exact ⟨by omega, hG⟩
 obtain ⟨hk1, hk2⟩ := hk
 (conv => whnf)
 (refine br_ (fun h2 => ?_) (fun h2 => ?_) <;> (repeat (refine stg_ ?_)))
 ·obtain ⟨m, hx⟩ := at_lt' (xs := v.fMasters) (k := k) (by omega)
  rw [drop_at hx, List.all_cons] at hk2
  have hP : m.fPeaks.all pkB = !m.fPeaks.any (fun p => !pkB p) := by rw [List.all_eq_not_any_not]
  have hLp : (m.fPeaks.map TPeak.D).length = m.fPeaks.length := List.length_map _
  have hLd : (m.fDeltas.map TGlyphDelta.D).length = m.fDeltas.length := List.length_map _
  have hany : m.fPeaks.any (fun p => !pkB p) = !(m.fPeaks.all pkB) := by rw [List.all_eq_not_any_not, Bool.not_not]
  have c := ctPeak_v m.fPeaks _ (fun p => !pkB p) wfN_v
  rw [hany] at c
  have hM : maB v.fAxes.length m = (decide (m.fPeaks.length = v.fAxes.length) && (decide (m.fDeltas.length ≤ 20) && (m.fPeaks.all pkB && dsG none m.fDeltas))) := rfl
  rw [hM] at hk2
  cases hpk : m.fPeaks.all pkB <;> rw [hpk] at c hk2
  ·(repeat' (first | (refine stg_ ?_) | (refine cla_ (c) ?_) | (refine br_ (fun hbr => ?_) (fun hbr => ?_))))
   all_goals ((refine RetOK.d rfl rfl ?_; conv => whnf); rw [hk2]; simp)
  by_cases hq : m.fPeaks.length = v.fAxes.length ∧ m.fDeltas.length ≤ 20
  rotate_left
  ·have hz : (decide (m.fPeaks.length = v.fAxes.length) && decide (m.fDeltas.length ≤ 20)) = false := by
    rw [Bool.and_eq_false_iff, decide_eq_false_iff_not, decide_eq_false_iff_not]; omega
   rw [← Bool.and_assoc, hz] at hk2
   (repeat' (first | (refine stg_ ?_) | (refine cla_ (c) ?_) | (refine br_ (fun hbr => ?_) (fun hbr => ?_))))
   all_goals first | (exfalso; omega) | ((refine RetOK.d rfl rfl ?_; conv => whnf); rw [hk2]; simp)
  rw [decide_eq_true hq.1, decide_eq_true hq.2, Bool.true_and, Bool.true_and, Bool.true_and] at hk2
  (repeat' (first | (refine stg_ ?_) | (refine cla_ (c) ?_) | (refine br_ (fun hbr => ?_) (fun hbr => ?_))))
  all_goals first | (exfalso; omega) | skip
  refine LoopW.go (α := Nat) (fun j => [(1, .pB 1 [] 0), (4, .pB 2 [] 0), (18, .d (.lst (v.fMasters.map TMaster.D))), (19, .d (.int .i64 (v.fMasters.map TMaster.D).length)), (20, .d (.int .i64 k)), (43, .d (.lst (m.fDeltas.map TGlyphDelta.D))), (44, .d (.int .i64 (m.fDeltas.map TGlyphDelta.D).length)), (45, .d (.int .i64 j))]) (fun j => [.gone, .box (.d v.D), .box (.d m.D)]) (fun j => j ≤ m.fDeltas.length ∧ dsG none m.fDeltas = dsG (pv m.fDeltas j) (m.fDeltas.drop j)) (fun j => m.fDeltas.length - j) 0 covT_ ⟨by omega, rfl⟩ (fun j hj => ?_)
  obtain ⟨hj1, hj2⟩ := hj
  (conv => whnf)
  (refine br_ (fun h3 => ?_) (fun h3 => ?_) <;> (repeat (refine stg_ ?_)))
  ·obtain ⟨d, hd⟩ := at_lt' (xs := m.fDeltas) (k := j) (by omega)
   rw [dsG_at hd] at hj2
   rcases Nat.eq_zero_or_pos j with rfl | h0
   ·rw [pv_zero, ltG, Bool.true_and] at hj2
    (repeat' (first | (refine stg_ ?_) | (refine cla_ (validDelta_v d) ?_) | (refine br_ (fun hbr => ?_) (fun hbr => ?_))))
    all_goals first | (exfalso; omega) | ((refine RetOK.d rfl rfl ?_; conv => whnf); simp_all; done) | skip
    all_goals exact NextW.go (0 + 1) covT_ ⟨by omega, by simp_all⟩ (by omega)
   ·obtain ⟨p, hp⟩ := at_lt' (xs := m.fDeltas) (k := j - 1) (by omega)
    have hp' : (m.fDeltas.map TGlyphDelta.D)[((j : Int) - 1).toNat]? = some p.D := by
     have : ((j : Int) - 1).toNat = j - 1 := by omega
     rw [this, List.getElem?_map, hp]; rfl
    rw [pv_pos _ h0, hp, ltG] at hj2
    (repeat' (first | (refine stg_ ?_) | (refine cla_ (validDelta_v d) ?_) | (refine IxW.at (by omega) hp' ?_; (conv => whnf)) | (refine br_ (fun hbr => ?_) (fun hbr => ?_))))
    all_goals first | (exfalso; omega) | ((refine RetOK.d rfl rfl ?_; conv => whnf); simp_all; done) | ((refine RetOK.d rfl rfl ?_; conv => whnf); rw [hk2, hj2, decide_eq_false (show ¬ p.fGlyph < d.fGlyph by omega)]; simp; done) | skip
    all_goals exact NextW.go (j + 1) covT_ ⟨by omega, by rw [hj2, decide_eq_true (show p.fGlyph < d.fGlyph by omega)]; simp_all⟩ (by omega)
  ·rw [dsG_end (by omega)] at hj2
   rw [hj2, Bool.true_and] at hk2
   (repeat (refine stg_ ?_))
   exact NextW.go (k + 1) covT_ ⟨by omega, hk2⟩ (by omega)
 ·(refine RetOK.d rfl rfl ?_; conv => whnf)
  rw [hk2, List.drop_eq_nil_of_le (by omega)]; rfl
set_option maxHeartbeats 4000000 in
theorem l30Formed_v (v : TVariation) : PC Tryz.prog 52 [.pX v.D] (.d (.bool (wfB v))) [] := by
 refine pc_intro ttOk (by kernel_rfl) Tryz.func52 rfl (by kernel_rfl) (by kernel_rfl) (by kernel_rfl) (fun hw => ?_)
 have hL : (v.fMasters.map TMaster.D).length = v.fMasters.length := List.length_map _
 have hLa : (v.fAxes.map TAxis.D).length = v.fAxes.length := List.length_map _
 have hm : (v.fMasters.map TMaster.D).length ≤ 9223372036854775807 := hw.1.2.1.1
 have c0 := l29Ok_v v.fAxes
 have hG : wfB v = (axsB v.fAxes && (decide (v.fMasters.length ≤ 8) && v.fMasters.all (maB v.fAxes.length))) := rfl
 cases hB : axsB v.fAxes <;> rw [hB] at c0 hG
 ·(conv => whnf)
  (repeat' (first | (refine stg_ ?_) | (refine cla_ (c0) ?_) | (refine br_ (fun hbr => ?_) (fun hbr => ?_))))
  all_goals ((refine RetOK.d rfl rfl ?_; conv => whnf); rw [hG]; rfl)
 have hx3 : v.fAxes.length ≤ 3 := by
  simp only [axsB, Bool.and_eq_true, decide_eq_true_eq] at hB
  exact hB.1
 by_cases h8 : v.fMasters.length ≤ 8
 rotate_left
 ·rw [decide_eq_false h8] at hG
  (conv => whnf)
  (repeat' (first | (refine stg_ ?_) | (refine cla_ (c0) ?_) | (refine br_ (fun hbr => ?_) (fun hbr => ?_))))
  all_goals first | (exfalso; omega) | ((refine RetOK.d rfl rfl ?_; conv => whnf); rw [hG]; rfl)
 rw [decide_eq_true h8, Bool.true_and, Bool.true_and] at hG
 (conv => whnf)
 (repeat' (first | (refine stg_ ?_) | (refine cla_ (c0) ?_) | (refine br_ (fun hbr => ?_) (fun hbr => ?_))))
 all_goals first | (exfalso; omega) | skip
 refine LoopW.go (α := Nat) (fun k => [(0, .pX v.D), (3, .d (.int .i64 k))]) (fun k => [.gone]) (fun k => k ≤ v.fMasters.length ∧ wfB v = (v.fMasters.drop k).all (maB v.fAxes.length)) (fun k => v.fMasters.length - k) 0 covT_ ?_ (fun k hk => ?_)
 ·exact ⟨by omega, hG⟩
 obtain ⟨hk1, hk2⟩ := hk
 (conv => whnf)
 (refine br_ (fun h2 => ?_) (fun h2 => ?_) <;> (repeat (refine stg_ ?_)))
 ·obtain ⟨m, hx⟩ := at_lt' (xs := v.fMasters) (k := k) (by omega)
  rw [drop_at hx, List.all_cons] at hk2
  have hLp : (m.fPeaks.map TPeak.D).length = m.fPeaks.length := List.length_map _
  have hLd : (m.fDeltas.map TGlyphDelta.D).length = m.fDeltas.length := List.length_map _
  have hPk : pksB m.fPeaks = (decide (m.fPeaks.length ≤ 3) && m.fPeaks.all pkB) := rfl
  have c := l30Peaks_v m.fPeaks
  rw [hPk] at c
  have hM : maB v.fAxes.length m = (decide (m.fPeaks.length = v.fAxes.length) && (decide (m.fDeltas.length ≤ 20) && (m.fPeaks.all pkB && dsG none m.fDeltas))) := rfl
  rw [hM] at hk2
  cases hpk : m.fPeaks.all pkB <;> rw [hpk] at c hk2
  ·rw [Bool.and_false] at c
   (repeat' (first | (refine stg_ ?_) | (refine cla_ (c) ?_) | (refine br_ (fun hbr => ?_) (fun hbr => ?_))))
   all_goals ((refine RetOK.d rfl rfl ?_; conv => whnf); rw [hk2]; simp)
  rw [Bool.and_true] at c
  by_cases hq : m.fPeaks.length = v.fAxes.length ∧ m.fDeltas.length ≤ 20
  rotate_left
  ·have hz : (decide (m.fPeaks.length = v.fAxes.length) && decide (m.fDeltas.length ≤ 20)) = false := by
    rw [Bool.and_eq_false_iff, decide_eq_false_iff_not, decide_eq_false_iff_not]; omega
   rw [← Bool.and_assoc, hz] at hk2
   (repeat' (first | (refine stg_ ?_) | (refine cla_ (c) ?_) | (refine br_ (fun hbr => ?_) (fun hbr => ?_))))
   all_goals first | (exfalso; omega) | ((refine RetOK.d rfl rfl ?_; conv => whnf); rw [hk2]; simp)
  rw [decide_eq_true hq.1, decide_eq_true hq.2, Bool.true_and, Bool.true_and, Bool.true_and] at hk2
  rw [decide_eq_true (show m.fPeaks.length ≤ 3 by omega)] at c
  (repeat' (first | (refine stg_ ?_) | (refine cla_ (c) ?_) | (refine br_ (fun hbr => ?_) (fun hbr => ?_))))
  all_goals first | (exfalso; omega) | skip
  refine LoopW.go (α := Nat) (fun j => [(0, .pX v.D), (3, .d (.int .i64 k)), (4, .pX m.D), (5, .d (.int .i64 j))]) (fun j => [.gone]) (fun j => j ≤ m.fDeltas.length ∧ dsG none m.fDeltas = dsG (pv m.fDeltas j) (m.fDeltas.drop j)) (fun j => m.fDeltas.length - j) 0 covT_ ⟨by omega, rfl⟩ (fun j hj => ?_)
  obtain ⟨hj1, hj2⟩ := hj
  (conv => whnf)
  (refine br_ (fun h3 => ?_) (fun h3 => ?_) <;> (repeat (refine stg_ ?_)))
  ·obtain ⟨d, hd⟩ := at_lt' (xs := m.fDeltas) (k := j) (by omega)
   rw [dsG_at hd] at hj2
   rcases Nat.eq_zero_or_pos j with rfl | h0
   ·rw [pv_zero, ltG, Bool.true_and] at hj2
    (repeat' (first | (refine stg_ ?_) | (refine cla_ (l30Delta_v d) ?_) | (refine br_ (fun hbr => ?_) (fun hbr => ?_))))
    all_goals first | (exfalso; omega) | ((refine RetOK.d rfl rfl ?_; conv => whnf); simp_all; done) | skip
    all_goals exact NextW.go (0 + 1) covT_ ⟨by omega, by simp_all⟩ (by omega)
   ·obtain ⟨p, hp⟩ := at_lt' (xs := m.fDeltas) (k := j - 1) (by omega)
    have hp' : (m.fDeltas.map TGlyphDelta.D)[((j : Int) - 1).toNat]? = some p.D := by
     have : ((j : Int) - 1).toNat = j - 1 := by omega
     rw [this, List.getElem?_map, hp]; rfl
    rw [pv_pos _ h0, hp, ltG] at hj2
    (repeat' (first | (refine stg_ ?_) | (refine cla_ (l30Delta_v d) ?_) | (refine IxW.at (by omega) hp' ?_; (conv => whnf)) | (refine br_ (fun hbr => ?_) (fun hbr => ?_))))
    all_goals first | (exfalso; omega) | ((refine RetOK.d rfl rfl ?_; conv => whnf); simp_all; done) | ((refine RetOK.d rfl rfl ?_; conv => whnf); rw [hk2, hj2, decide_eq_false (show ¬ p.fGlyph < d.fGlyph by omega)]; simp; done) | skip
    all_goals exact NextW.go (j + 1) covT_ ⟨by omega, by rw [hj2, decide_eq_true (show p.fGlyph < d.fGlyph by omega)]; simp_all⟩ (by omega)
  ·rw [dsG_end (by omega)] at hj2
   rw [hj2, Bool.true_and] at hk2
   (repeat (refine stg_ ?_))
   exact NextW.go (k + 1) covT_ ⟨by omega, hk2⟩ (by omega)
 ·(refine RetOK.d rfl rfl ?_; conv => whnf)
  rw [hk2, List.drop_eq_nil_of_le (by omega)]; rfl
theorem isNaNi_v (n : Int) : PC Tryz.prog 148 [.d (.int .i64 n)] (.d (.bool false)) [] := by
 refine pc_intro ttOk (by kernel_rfl) Tryz.func148 rfl (by kernel_rfl) (by kernel_rfl) (by kernel_rfl) (fun hw => ?_)
 (conv => whnf)
 (repeat' (first | (refine stg_ ?_) | fail | (refine br_ (fun hbr => ?_) (fun hbr => ?_))))
 all_goals ((refine RetOK.d rfl rfl ?_; conv => whnf); simp)
theorem isNaNs_v (n : Int) : PC Tryz.prog 126 [.d (.int .i64 n)] (.d (.bool false)) [] := by
 refine pc_intro ttOk (by kernel_rfl) Tryz.func126 rfl (by kernel_rfl) (by kernel_rfl) (by kernel_rfl) (fun hw => ?_)
 (conv => whnf)
 (repeat' (first | (refine stg_ ?_) | fail | (refine br_ (fun hbr => ?_) (fun hbr => ?_))))
 all_goals ((refine RetOK.d rfl rfl ?_; conv => whnf); simp)
theorem less_v (a b : Int) : PC Tryz.prog 125 [.d (.int .i64 a), .d (.int .i64 b)] (.d (.bool (decide (a < b)))) [] := by
 refine pc_intro ttOk (by kernel_rfl) Tryz.func125 rfl (by kernel_rfl) (by kernel_rfl) (by kernel_rfl) (fun hw => ?_)
 (conv => whnf)
 (repeat' (first | (refine stg_ ?_) | (refine cla_ (isNaNi_v _) ?_) | (refine br_ (fun hbr => ?_) (fun hbr => ?_))))
 all_goals ((refine RetOK.d rfl rfl ?_; conv => whnf); try simp_all)
set_option maxHeartbeats 2000000 in
theorem bsr_v (xs : List Int) (b : Int) (hs : srt xs) (hl : xs.length ≤ 1048576) : PC Tryz.prog 87 [.d (.lst (xs.map (D.int .i64))), .d (.int .i64 b)] (.tup [.d (.int .i64 (cl xs b : Nat)), .d (.bool (fd xs b))]) [] := by
 refine pc_intro ttOk (by kernel_rfl) Tryz.func87 rfl (by kernel_rfl) (by kernel_rfl) (by kernel_rfl) (fun hw => ?_)
 have hL : (xs.map (D.int .i64)).length = xs.length := List.length_map _
 have hm : (xs.map (D.int .i64)).length ≤ 9223372036854775807 := hw.1.1
 have hc := cl_le xs b
 (conv => whnf)
 (repeat (refine stg_ ?_))
 refine LoopW.go (α := Nat × Nat) (fun p => [(0, .d (.lst (xs.map (D.int .i64)))), (1, .d (.int .i64 b)), (6, .d (.int .i64 (xs.map (D.int .i64)).length)), (7, .d (.int .i64 (p.1 : Nat))), (8, .d (.int .i64 (p.2 : Nat)))]) (fun _ => [.gone]) (fun p => p.1 ≤ cl xs b ∧ cl xs b ≤ p.2 ∧ p.2 ≤ xs.length) (fun p => p.2 - p.1) (0, xs.length) (Weak.cov ⟨rfl, rfl, rfl, rfl, by rw [← hL]; rfl, trivial⟩ ⟨trivial, trivial⟩ rfl) ⟨by simp, hc, Nat.le_refl _⟩ ?_
 rintro ⟨i, j⟩ ⟨k1, k2, k3⟩
 dsimp only at k1 k2 k3 ⊢
 (conv => whnf)
 (refine br_ (fun h1 => ?_) (fun h1 => ?_))
 ·(repeat (refine stg_ ?_))
  refine ShW.at (q := 2) (by rfl) (by omega) ?_
  (conv => whnf)
  have hq : ((i : Int) + (j : Int)) / 2 = (((i + j) / 2 : Nat) : Int) := by omega
  rw [hq]
  generalize hh : (i + j) / 2 = m at *
  obtain ⟨y, hy⟩ := at_lt' (xs := xs) (k := m) (by omega)
  have c1 := less_v y b
  (repeat (refine stg_ ?_))
  (refine cla_ (c1) ?_)
  (repeat (refine stg_ ?_))
  (refine br_ (fun h2 => ?_) (fun h2 => ?_))
  ·have hlt : m < cl xs b := by
    apply Classical.byContradiction
    intro h
    have := cl_ge (b := b) hs (by omega) hy
    omega
   (repeat (refine stg_ ?_))
   refine NextW.go (m + 1, j) covT_ ⟨by simp only; omega, by simp only; omega, by simp only; omega⟩ (by show j - (m + 1) < j - i; omega)
  ·have hge : cl xs b ≤ m := by
    apply Classical.byContradiction
    intro h
    have := cl_lt (b := b) (by omega) hy
    omega
   (repeat (refine stg_ ?_))
   refine NextW.go (i, m) covT_ ⟨by simp only; omega, by simp only; omega, by simp only; omega⟩ (by show m - i < j - i; omega)
 ·obtain rfl : i = cl xs b := by omega
  rcases Nat.lt_or_ge (cl xs b) xs.length with hlt | hge
  ·obtain ⟨y, hy⟩ := at_lt' (xs := xs) (k := cl xs b) hlt
   have hf : fd xs b = decide (y = b) := by
    rw [fd, hy]
    by_cases h : y = b
    ·subst h; simp
    ·rw [decide_eq_false h]; simp [h]
   rw [hf]
   (repeat' (first | (refine stg_ ?_) | (refine cla_ (isNaNs_v _) ?_) | (refine br_ (fun hbr => ?_) (fun hbr => ?_))))
   all_goals first | (exfalso; omega) | skip
   all_goals ((refine RetOK.t rfl ?_; (repeat' ((conv => whnf); (first | done | (refine ⟨_, _, rfl, ⟨rfl, ?_⟩, ?_⟩) | fail))); (all_goals (conv => whnf))); (all_goals first | rfl | (simp_all; done) | skip))
  ·have hf : fd xs b = false := by
    rw [fd, List.getElem?_eq_none hge]; rfl
   rw [hf]
   (repeat' (first | (refine stg_ ?_) | (refine cla_ (isNaNs_v _) ?_) | (refine br_ (fun hbr => ?_) (fun hbr => ?_))))
   all_goals first | (exfalso; omega) | skip
   all_goals ((refine RetOK.t rfl ?_; (repeat' ((conv => whnf); (first | done | (refine ⟨_, _, rfl, ⟨rfl, ?_⟩, ?_⟩) | fail))); (all_goals (conv => whnf))); (all_goals first | rfl | (simp_all; done) | skip))
theorem prodb (u v w : Int) (h1 : 0 < u) (h2 : u < w) (h3 : w ≤ 524288) (h4 : -524288 ≤ v) (h5 : v ≤ 524288) : (-274877906944 ≤ u * v ∧ u * v ≤ 274877906944) ∧ 0 < w ∧ -524288 ≤ divR (u * v) w ∧ divR (u * v) w ≤ 524288 := by
 have e3 : u * v ≤ u * 524288 := Int.mul_le_mul_of_nonneg_left h5 (by omega)
 have e4 : u * (-524288) ≤ u * v := Int.mul_le_mul_of_nonneg_left h4 (by omega)
 refine ⟨by omega, by omega, le_divR (by omega) (by omega), divR_le (by omega) (by omega)⟩
theorem inferred_v (x a b c d : Int) (hb : (-262144 ≤ x ∧ x ≤ 262144) ∧ (-262144 ≤ a ∧ a ≤ 262144) ∧ (-262144 ≤ b ∧ b ≤ 262144) ∧ (-262144 ≤ c ∧ c ≤ 262144) ∧ -262144 ≤ d ∧ d ≤ 262144) : PC Tryz.prog 88 [.d (.int .i64 x), .d (.int .i64 a), .d (.int .i64 b), .d (.int .i64 c), .d (.int .i64 d)] (.d (.int .i64 (bt x a b c d))) [] := by
 refine pc_intro ttOk (by kernel_rfl) Tryz.func88 rfl (by kernel_rfl) (by kernel_rfl) (by kernel_rfl) (fun hw => ?_)
 obtain ⟨b1, b2, b3, b4, b5⟩ := hb
 by_cases hab : b < a
 ·rw [bt, if_pos hab]
  have d1 := DivRound_v ((x - b) * (c - d)) (a - b)
  by_cases h1 : b = a
  ·by_cases h2 : d = c
   ·rw [bt0, if_pos h1, if_pos h2]
    (conv => whnf)
    (repeat' (first | (refine stg_ ?_) | fail | (refine br_ (fun hbr => ?_) (fun hbr => ?_))))
    all_goals first | (exfalso; omega) | ((refine RetOK.d rfl rfl ?_; conv => whnf); done) | ((refine RetOK.d rfl rfl ?_; conv => whnf); congr 1)
   ·rw [bt0, if_pos h1, if_neg h2]
    (conv => whnf)
    (repeat' (first | (refine stg_ ?_) | fail | (refine br_ (fun hbr => ?_) (fun hbr => ?_))))
    all_goals first | (exfalso; omega) | ((refine RetOK.d rfl rfl ?_; conv => whnf); done)
  by_cases h2 : x ≤ b
  ·rw [bt0, if_neg h1, if_pos h2]
   (conv => whnf)
   (repeat' (first | (refine stg_ ?_) | fail | (refine br_ (fun hbr => ?_) (fun hbr => ?_))))
   all_goals first | (exfalso; omega) | ((refine RetOK.d rfl rfl ?_; conv => whnf); done)
  by_cases h3 : a ≤ x
  ·rw [bt0, if_neg h1, if_neg h2, if_pos h3]
   (conv => whnf)
   (repeat' (first | (refine stg_ ?_) | fail | (refine br_ (fun hbr => ?_) (fun hbr => ?_))))
   all_goals first | (exfalso; omega) | ((refine RetOK.d rfl rfl ?_; conv => whnf); done)
  ·rw [bt0, if_neg h1, if_neg h2, if_neg h3]
   obtain ⟨e1, e2, e3, e4⟩ := prodb (x - b) (c - d) (a - b) (by omega) (by omega) (by omega) (by omega) (by omega)
   (conv => whnf)
   (repeat' (first | (refine stg_ ?_) | (refine cla_ (d1) ?_) | (refine br_ (fun hbr => ?_) (fun hbr => ?_))))
   all_goals first | (exfalso; omega) | ((refine RetOK.d rfl rfl ?_; conv => whnf); done)
 ·rw [bt, if_neg hab]
  have d1 := DivRound_v ((x - a) * (d - c)) (b - a)
  by_cases h1 : a = b
  ·by_cases h2 : c = d
   ·rw [bt0, if_pos h1, if_pos h2]
    (conv => whnf)
    (repeat' (first | (refine stg_ ?_) | fail | (refine br_ (fun hbr => ?_) (fun hbr => ?_))))
    all_goals first | (exfalso; omega) | ((refine RetOK.d rfl rfl ?_; conv => whnf); done) | ((refine RetOK.d rfl rfl ?_; conv => whnf); congr 1)
   ·rw [bt0, if_pos h1, if_neg h2]
    (conv => whnf)
    (repeat' (first | (refine stg_ ?_) | fail | (refine br_ (fun hbr => ?_) (fun hbr => ?_))))
    all_goals first | (exfalso; omega) | ((refine RetOK.d rfl rfl ?_; conv => whnf); done)
  by_cases h2 : x ≤ a
  ·rw [bt0, if_neg h1, if_pos h2]
   (conv => whnf)
   (repeat' (first | (refine stg_ ?_) | fail | (refine br_ (fun hbr => ?_) (fun hbr => ?_))))
   all_goals first | (exfalso; omega) | ((refine RetOK.d rfl rfl ?_; conv => whnf); done)
  by_cases h3 : b ≤ x
  ·rw [bt0, if_neg h1, if_neg h2, if_pos h3]
   (conv => whnf)
   (repeat' (first | (refine stg_ ?_) | fail | (refine br_ (fun hbr => ?_) (fun hbr => ?_))))
   all_goals first | (exfalso; omega) | ((refine RetOK.d rfl rfl ?_; conv => whnf); done)
  ·rw [bt0, if_neg h1, if_neg h2, if_neg h3]
   obtain ⟨e1, e2, e3, e4⟩ := prodb (x - a) (d - c) (b - a) (by omega) (by omega) (by omega) (by omega) (by omega)
   (conv => whnf)
   (repeat' (first | (refine stg_ ?_) | (refine cla_ (d1) ?_) | (refine br_ (fun hbr => ?_) (fun hbr => ?_))))
   all_goals first | (exfalso; omega) | ((refine RetOK.d rfl rfl ?_; conv => whnf); done)
theorem knotCount_v (o : TOutline) (ho : outB o = true) : PC Tryz.prog 42 [.d o.D] (.d (.int .i64 (cnK o.fLoops : Nat))) [] := by
 refine pc_intro ttOk (by kernel_rfl) Tryz.func42 rfl (by kernel_rfl) (by kernel_rfl) (by kernel_rfl) (fun hw => ?_)
 obtain ⟨ho1, ho2⟩ := out_in ho
 have hL : (o.fLoops.map TLoop.D).length = o.fLoops.length := List.length_map _
 have hC := cnK_le ho2
 (conv => whnf)
 (repeat (refine stg_ ?_))
 refine LoopW.go (α := Nat) (fun k => [(3, .d (.int .i64 (cnK (o.fLoops.take k) : Nat))), (7, .d (.lst (o.fLoops.map TLoop.D))), (8, .d (.int .i64 (o.fLoops.map TLoop.D).length)), (9, .d (.int .i64 k))]) (fun _ => [.gone]) (fun k => k ≤ o.fLoops.length) (fun k => o.fLoops.length - k) 0 covT_ (by omega) (fun k hk => ?_)
 have hT := cnK_take o.fLoops k
 (conv => whnf)
 (refine br_ (fun h1 => ?_) (fun h1 => ?_))
 ·obtain ⟨l, hl⟩ := at_lt' (xs := o.fLoops) (k := k) (by omega)
  have hS : cnK (o.fLoops.take (k + 1)) = cnK (o.fLoops.take k) + l.fKnots.length := by rw [take_snoc_get hl, cnK_snoc]
  have hLk : (l.fKnots.map TKnot.D).length = l.fKnots.length := List.length_map _
  have hT2 := cnK_take o.fLoops (k + 1)
  (repeat (refine stg_ ?_))
  refine NextW.go (k + 1) (Weak.cov ⟨?_, rfl, rfl, rfl, trivial⟩ ⟨trivial, trivial⟩ rfl) (by omega) (by omega)
  rw [hS, ← hLk]; rfl
 ·(repeat (refine stg_ ?_))
  (refine RetOK.d rfl rfl ?_; conv => whnf)
  rw [List.take_of_length_le (by omega)]
theorem l30Count_v (o : TOutline) (ho : outB o = true) : PC Tryz.prog 54 [.pX o.D] (.d (.int .i64 (cnK o.fLoops : Nat))) [] := by
 refine pc_intro ttOk (by kernel_rfl) Tryz.func54 rfl (by kernel_rfl) (by kernel_rfl) (by kernel_rfl) (fun hw => ?_)
 obtain ⟨ho1, ho2⟩ := out_in ho
 have hL : (o.fLoops.map TLoop.D).length = o.fLoops.length := List.length_map _
 have hC := cnK_le ho2
 (conv => whnf)
 (repeat (refine stg_ ?_))
 refine LoopW.go (α := Nat) (fun k => [(0, .pX o.D), (3, .d (.int .i64 (cnK (o.fLoops.take k) : Nat))), (4, .d (.int .i64 k))]) (fun _ => [.gone]) (fun k => k ≤ o.fLoops.length) (fun k => o.fLoops.length - k) 0 covT_ (by omega) (fun k hk => ?_)
 have hT := cnK_take o.fLoops k
 (conv => whnf)
 (refine br_ (fun h1 => ?_) (fun h1 => ?_))
 ·obtain ⟨l, hl⟩ := at_lt' (xs := o.fLoops) (k := k) (by omega)
  have hS : cnK (o.fLoops.take (k + 1)) = cnK (o.fLoops.take k) + l.fKnots.length := by rw [take_snoc_get hl, cnK_snoc]
  have hLk : (l.fKnots.map TKnot.D).length = l.fKnots.length := List.length_map _
  have hT2 := cnK_take o.fLoops (k + 1)
  (repeat (refine stg_ ?_))
  refine NextW.go (k + 1) (Weak.cov ⟨rfl, ?_, rfl, trivial⟩ ⟨trivial, trivial⟩ rfl) (by omega) (by omega)
  rw [hS, ← hLk]; rfl
 ·(repeat (refine stg_ ?_))
  (refine RetOK.d rfl rfl ?_; conv => whnf)
  rw [List.take_of_length_le (by omega)]
def trInf : OT :=
 (.q 0 (.q 1 (.q 2 (.q 3 (.q 4 (.q 5 (.q 6 (.q 7 (.q 8 (.q 9 (.q 10 (.q 11 (.q 13 (.q 14 (.q 15 (.q 17 (.alt 12 (.alt 16 (.q 18 (.q 19 (.q 20 (.alt 21 (.alt 22 (.alt 23 (.alt 24 (.alt 25 .done .nil)
 .nil) .nil) (.alt 23 (.alt 22 (.alt 24 (.alt 25 .done .nil) .nil) .nil) .nil)) (.alt 22 (.alt 21 (.alt 23 (.alt 24 (.alt 25 .done .nil) .nil) .nil) (.alt 23 (.alt 21 (.alt 24 (.alt 25 .done .nil)
 .nil) (.alt 24 (.q 21 (.alt 25 .done .nil)) .nil)) .nil)) (.alt 23 (.alt 21 (.alt 22 (.alt 24 (.alt 25 .done .nil) .nil) .nil) (.alt 22 (.alt 21 (.alt 24 (.alt 25 .done .nil) .nil) (.alt 24 (.q 21
 (.alt 25 .done .nil)) .nil)) .nil)) .nil)))))) (.alt 22 (.alt 16 (.q 18 (.q 19 (.q 20 (.alt 21 (.alt 23 (.alt 24 (.alt 25 .done .nil) .nil) .nil) (.alt 23 (.alt 21 (.alt 24 (.alt 25 .done .nil) .nil)
 (.alt 24 (.q 21 (.alt 25 .done .nil)) .nil)) .nil))))) (.alt 23 (.alt 16 (.q 18 (.q 19 (.q 20 (.alt 21 (.alt 24 (.alt 25 .done .nil) .nil) (.alt 24 (.q 21 (.alt 25 .done .nil)) .nil))))) (.alt 24 (.q
 16 (.q 18 (.q 19 (.q 20 (.q 21 (.alt 25 .done .nil)))))) .nil)) .nil)) (.alt 23 (.alt 16 (.q 18 (.q 19 (.q 20 (.alt 21 (.alt 22 (.alt 24 (.alt 25 .done .nil) .nil) .nil) (.alt 22 (.alt 21 (.alt 24
 (.alt 25 .done .nil) .nil) (.alt 24 (.q 21 (.alt 25 .done .nil)) .nil)) .nil))))) (.alt 22 (.alt 16 (.q 18 (.q 19 (.q 20 (.alt 21 (.alt 24 (.alt 25 .done .nil) .nil) (.alt 24 (.q 21 (.alt 25 .done
 .nil)) .nil))))) (.alt 24 (.q 16 (.q 18 (.q 19 (.q 20 (.q 21 (.alt 25 .done .nil)))))) .nil)) .nil)) .nil))) (.alt 16 (.q 18 (.alt 12 (.q 19 (.q 20 (.alt 21 (.alt 22 (.alt 23 (.alt 24 (.alt 25 .done
 .nil) .nil) .nil) (.alt 23 (.alt 22 (.alt 24 (.alt 25 .done .nil) .nil) .nil) .nil)) (.alt 22 (.alt 21 (.alt 23 (.alt 24 (.alt 25 .done .nil) .nil) .nil) (.alt 23 (.alt 21 (.alt 24 (.alt 25 .done
 .nil) .nil) (.alt 24 (.q 21 (.alt 25 .done .nil)) .nil)) .nil)) (.alt 23 (.alt 21 (.alt 22 (.alt 24 (.alt 25 .done .nil) .nil) .nil) (.alt 22 (.alt 21 (.alt 24 (.alt 25 .done .nil) .nil) (.alt 24 (.q
 21 (.alt 25 .done .nil)) .nil)) .nil)) .nil))))) (.alt 22 (.alt 12 (.q 19 (.q 20 (.alt 21 (.alt 23 (.alt 24 (.alt 25 .done .nil) .nil) .nil) (.alt 23 (.alt 21 (.alt 24 (.alt 25 .done .nil) .nil) (.alt
 24 (.q 21 (.alt 25 .done .nil)) .nil)) .nil)))) (.alt 23 (.alt 12 (.q 19 (.q 20 (.alt 21 (.alt 24 (.alt 25 .done .nil) .nil) (.alt 24 (.q 21 (.alt 25 .done .nil)) .nil)))) (.alt 24 (.q 12 (.q 19 (.q
 20 (.q 21 (.alt 25 .done .nil))))) .nil)) .nil)) (.alt 23 (.alt 12 (.q 19 (.q 20 (.alt 21 (.alt 22 (.alt 24 (.alt 25 .done .nil) .nil) .nil) (.alt 22 (.alt 21 (.alt 24 (.alt 25 .done .nil) .nil) (.alt
 24 (.q 21 (.alt 25 .done .nil)) .nil)) .nil)))) (.alt 22 (.alt 12 (.q 19 (.q 20 (.alt 21 (.alt 24 (.alt 25 .done .nil) .nil) (.alt 24 (.q 21 (.alt 25 .done .nil)) .nil)))) (.alt 24 (.q 12 (.q 19 (.q
 20 (.q 21 (.alt 25 .done .nil))))) .nil)) .nil)) .nil)))) (.alt 22 (.alt 12 (.alt 16 (.q 18 (.q 19 (.q 20 (.alt 21 (.alt 23 (.alt 24 (.alt 25 .done .nil) .nil) .nil) (.alt 23 (.alt 21 (.alt 24 (.alt
 25 .done .nil) .nil) (.alt 24 (.q 21 (.alt 25 .done .nil)) .nil)) .nil))))) (.alt 23 (.alt 16 (.q 18 (.q 19 (.q 20 (.alt 21 (.alt 24 (.alt 25 .done .nil) .nil) (.alt 24 (.q 21 (.alt 25 .done .nil))
 .nil))))) (.alt 24 (.q 16 (.q 18 (.q 19 (.q 20 (.q 21 (.alt 25 .done .nil)))))) .nil)) .nil)) (.alt 16 (.q 18 (.alt 12 (.q 19 (.q 20 (.alt 21 (.alt 23 (.alt 24 (.alt 25 .done .nil) .nil) .nil) (.alt
 23 (.alt 21 (.alt 24 (.alt 25 .done .nil) .nil) (.alt 24 (.q 21 (.alt 25 .done .nil)) .nil)) .nil)))) (.alt 23 (.alt 12 (.q 19 (.q 20 (.alt 21 (.alt 24 (.alt 25 .done .nil) .nil) (.alt 24 (.q 21 (.alt
 25 .done .nil)) .nil)))) (.alt 24 (.q 12 (.q 19 (.q 20 (.q 21 (.alt 25 .done .nil))))) .nil)) .nil))) (.alt 23 (.alt 12 (.alt 16 (.q 18 (.q 19 (.q 20 (.alt 21 (.alt 24 (.alt 25 .done .nil) .nil) (.alt
 24 (.q 21 (.alt 25 .done .nil)) .nil))))) (.alt 24 (.q 16 (.q 18 (.q 19 (.q 20 (.q 21 (.alt 25 .done .nil)))))) .nil)) (.alt 16 (.q 18 (.alt 12 (.q 19 (.q 20 (.alt 21 (.alt 24 (.alt 25 .done .nil)
 .nil) (.alt 24 (.q 21 (.alt 25 .done .nil)) .nil)))) (.alt 24 (.q 12 (.q 19 (.q 20 (.q 21 (.alt 25 .done .nil))))) .nil))) (.alt 24 (.q 12 (.q 16 (.q 18 (.q 19 (.q 20 (.q 21 (.alt 25 .done .nil)))))))
 .nil))) .nil))) (.alt 23 (.alt 12 (.alt 16 (.q 18 (.q 19 (.q 20 (.alt 21 (.alt 22 (.alt 24 (.alt 25 .done .nil) .nil) .nil) (.alt 22 (.alt 21 (.alt 24 (.alt 25 .done .nil) .nil) (.alt 24 (.q 21 (.alt
 25 .done .nil)) .nil)) .nil))))) (.alt 22 (.alt 16 (.q 18 (.q 19 (.q 20 (.alt 21 (.alt 24 (.alt 25 .done .nil) .nil) (.alt 24 (.q 21 (.alt 25 .done .nil)) .nil))))) (.alt 24 (.q 16 (.q 18 (.q 19 (.q
 20 (.q 21 (.alt 25 .done .nil)))))) .nil)) .nil)) (.alt 16 (.q 18 (.alt 12 (.q 19 (.q 20 (.alt 21 (.alt 22 (.alt 24 (.alt 25 .done .nil) .nil) .nil) (.alt 22 (.alt 21 (.alt 24 (.alt 25 .done .nil)
 .nil) (.alt 24 (.q 21 (.alt 25 .done .nil)) .nil)) .nil)))) (.alt 22 (.alt 12 (.q 19 (.q 20 (.alt 21 (.alt 24 (.alt 25 .done .nil) .nil) (.alt 24 (.q 21 (.alt 25 .done .nil)) .nil)))) (.alt 24 (.q 12
 (.q 19 (.q 20 (.q 21 (.alt 25 .done .nil))))) .nil)) .nil))) (.alt 22 (.alt 12 (.alt 16 (.q 18 (.q 19 (.q 20 (.alt 21 (.alt 24 (.alt 25 .done .nil) .nil) (.alt 24 (.q 21 (.alt 25 .done .nil))
 .nil))))) (.alt 24 (.q 16 (.q 18 (.q 19 (.q 20 (.q 21 (.alt 25 .done .nil)))))) .nil)) (.alt 16 (.q 18 (.alt 12 (.q 19 (.q 20 (.alt 21 (.alt 24 (.alt 25 .done .nil) .nil) (.alt 24 (.q 21 (.alt 25
 .done .nil)) .nil)))) (.alt 24 (.q 12 (.q 19 (.q 20 (.q 21 (.alt 25 .done .nil))))) .nil))) (.alt 24 (.q 12 (.q 16 (.q 18 (.q 19 (.q 20 (.q 21 (.alt 25 .done .nil))))))) .nil))) .nil)))
 .nil))))))))))))))))))))
def tbInf : List PE := [⟨true, 0, 0⟩, ⟨true, 1, 1⟩, ⟨true, 0, 0⟩, ⟨true, 0, 0⟩, ⟨true, 12, 12⟩, ⟨true, 16, 16⟩, ⟨true, 0, 0⟩, ⟨true, 96, 96⟩, ⟨true, 130, 130⟩, ⟨true, 256, 256⟩, ⟨true, 512, 512⟩, ⟨true, 0, 0⟩, ⟨true, 2048, 16779264⟩, ⟨true, 0, 0⟩, ⟨true, 0, 0⟩, ⟨true, 24576, 24576⟩, ⟨true, 32768, 16809984⟩, ⟨true, 0, 0⟩, ⟨true, 196608, 196608⟩, ⟨true, 266240, 266240⟩, ⟨true, 524288, 524288⟩, ⟨true, 1048576, 17825792⟩, ⟨false, 0, 0⟩, ⟨false, 0, 0⟩, ⟨false, 12584959, 0⟩, ⟨false, 33554431, 0⟩]
structure InF (o : TOutline) (ns : List Int) (ms : List TPt) : Prop where
 vo : outB o = true
 sr : srt ns
 ln : ns.length = ms.length
 mv : ∀ p ∈ ms, pntB p = true
 bd : ∀ x ∈ ns, 0 ≤ x ∧ x < (cnK o.fLoops : Nat)
 nn : ns.length ≤ 1048576
theorem slF_sub {α : Type} {ns : List Int} {xs : List α} {b n : Nat} {P : α → Prop} (h : ∀ x ∈ xs, P x) : ∀ x ∈ slF ns xs b n, P x := fun x hx => h x (List.mem_of_mem_drop (List.mem_of_mem_take hx))
theorem slF_map {α : Type} (f : α → D) (ns : List Int) (xs : List α) (b n : Nat) : (slF ns xs b n).map f = ((xs.map f).drop (cl ns b)).take (cl ns (b + n : Nat) - cl ns b) := by rw [slF, List.map_take, List.map_drop]
set_option maxHeartbeats 8000000 in
theorem inferMoves_v (o : TOutline) (ns : List Int) (ms : List TPt) (h : InF o ns ms) : PC Tryz.prog 43 [.d o.D, .d (.lst (ns.map (D.int .i64))), .d (.lst (ms.map TPt.D))] (.own 1 0 (cnK o.fLoops)) [.arr 2 ((inL ns ms 0 o.fLoops).map TPt.D) true] := by
 refine pc_intro ttOk (by kernel_rfl) Tryz.func43 rfl (by kernel_rfl) (by kernel_rfl) (by kernel_rfl) (fun hw => ?_)
 obtain ⟨ho, hs, hlm, hmb, hnb, hn⟩ := h
 obtain ⟨ho1, ho2⟩ := out_in ho
 have hL : (o.fLoops.map TLoop.D).length = o.fLoops.length := List.length_map _
 have hLn : (ns.map (D.int .i64)).length = ns.length := List.length_map _
 have hLm : (ms.map TPt.D).length = ms.length := List.length_map _
 have hC := cnK_le ho2
 (conv => whnf)
 (repeat (refine stg_ ?_))
 refine LoopW.go (α := Nat) (fun i => [(1, .d (.lst (ns.map (D.int .i64)))), (2, .d (.lst (ms.map TPt.D))), (7, .own 2 0 ((inL ns ms 0 (o.fLoops.take i)).map TPt.D).length), (8, .d (.int .i64 (cnK (o.fLoops.take i) : Nat))), (26, .d (.lst (o.fLoops.map TLoop.D))), (27, .d (.int .i64 (o.fLoops.map TLoop.D).length)), (28, .d (.int .i64 i))]) (fun i => [.gone, .gone, .arr 2 ((inL ns ms 0 (o.fLoops.take i)).map TPt.D) true]) (fun i => i ≤ o.fLoops.length) (fun i => o.fLoops.length - i) 0 (Weak.trans (Weak.adopt (k := 7) rfl 2 true) covT_) (by omega) (fun i hi => ?_)
 have hT := cnK_take o.fLoops i
 have hIl : ((inL ns ms 0 (o.fLoops.take i)).map TPt.D).length = cnK (o.fLoops.take i) := by rw [List.length_map, inL_len]
 (conv => whnf)
 (refine br_ (fun h1 => ?_) (fun h1 => ?_))
 ·obtain ⟨l, hl⟩ := at_lt' (xs := o.fLoops) (k := i) (by omega)
  obtain ⟨l1, l2, l3⟩ := loop_in (ho2 l (List.mem_of_getElem? hl))
  have hLk : (l.fKnots.map TKnot.D).length = l.fKnots.length := List.length_map _
  have he : (o.fLoops.map TLoop.D)[i]? = some l.D := by rw [List.getElem?_map, hl]; rfl
  have hS : inL ns ms 0 (o.fLoops.take (i + 1)) = inL ns ms 0 (o.fLoops.take i) ++ rsL l.fKnots (cnK (o.fLoops.take i)) (slF ns ns (cnK (o.fLoops.take i)) l.fKnots.length) (slF ns ms (cnK (o.fLoops.take i)) l.fKnots.length) l.fKnots.length := by
   rw [take_snoc_get hl, inL_snoc, Nat.zero_add]
  have hS2 : cnK (o.fLoops.take (i + 1)) = cnK (o.fLoops.take i) + l.fKnots.length := by rw [take_snoc_get hl, cnK_snoc]
  have hT2 := cnK_take o.fLoops (i + 1)
  rw [hS2] at hT2
  generalize hb : cnK (o.fLoops.take i) = b at *
  generalize hpre : inL ns ms 0 (o.fLoops.take i) = pre at *
  have c1 := bsr_v ns (b : Nat) hs hn
  have c2 := bsr_v ns ((b + l.fKnots.length : Nat) : Int) hs hn
  have g1 := cl_mono hs (a := (b : Int)) (b := ((b + l.fKnots.length : Nat) : Int)) (by omega)
  have g2 := cl_le ns ((b + l.fKnots.length : Nat) : Int)
  have hFl := slF_len (xs := ns) rfl b l.fKnots.length g1
  have hBl := slF_len (xs := ms) hlm b l.fKnots.length g1
  have hFs := slF_srt hs b l.fKnots.length
  have hFm := slF_map (D.int .i64) ns ns b l.fKnots.length
  have hBm := slF_map TPt.D ns ms b l.fKnots.length
  have hFi : ∀ j x, (slF ns ns b l.fKnots.length)[j]? = some x → (b : Int) ≤ x ∧ x < ((b + l.fKnots.length : Nat) : Int) := fun j x hx => slF_in hs hx
  have hBp : ∀ p ∈ slF ns ms b l.fKnots.length, pntB p = true := slF_sub hmb
  (repeat (refine stg_ ?_))
  (refine cla_ (c1) ?_)
  (repeat (refine stg_ ?_))
  rw [hLk]
  (refine cla_ (c2) ?_)
  (repeat (refine stg_ ?_))
  generalize hF : slF ns ns b l.fKnots.length = F at *
  generalize hB : slF ns ms b l.fKnots.length = B at *
  have hLF : (F.map (D.int .i64)).length = F.length := List.length_map _
  have hLB : (B.map TPt.D).length = B.length := List.length_map _
  refine LoopW.go (α := Nat) (fun k => [(1, .d (.lst (ns.map (D.int .i64)))), (2, .d (.lst (ms.map TPt.D))), (7, .own 2 0 ((pre ++ rsL l.fKnots b F B k).map TPt.D).length), (8, .d (.int .i64 (b : Nat))), (10, .pB 3 [] 0), (11, .d (.int .i64 l.fKnots.length)), (16, .d (.lst (F.map (D.int .i64)))), (17, .d (.lst (B.map TPt.D))), (26, .d (.lst (o.fLoops.map TLoop.D))), (27, .d (.int .i64 (o.fLoops.map TLoop.D).length)), (28, .d (.int .i64 i)), (58, .d (.lst (l.fKnots.map TKnot.D))), (59, .d (.int .i64 (l.fKnots.map TKnot.D).length)), (60, .d (.int .i64 k))]) (fun k => [.gone, .gone, .arr 2 ((pre ++ rsL l.fKnots b F B k).map TPt.D) true, .box (.d l.D)]) (fun k => k ≤ l.fKnots.length) (fun k => l.fKnots.length - k) 0 (Weak.cov ⟨rfl, rfl, ?_, rfl, rfl, ?_, ?_, ?_, rfl, rfl, rfl, rfl, rfl, rfl, trivial⟩ ⟨trivial, trivial, ?_, rfl, trivial⟩ rfl) (by omega) (fun k hk => ?_)
  ·simp [rsL]; try rfl
  ·rfl
  ·rw [hFm]; rfl
  ·rw [hBm]; rfl
  ·simp [rsL]; try rfl
  have hrl := rsL_len l.fKnots b F B k
  have hpl : ((pre ++ rsL l.fKnots b F B k).map TPt.D).length = b + k := by rw [List.length_map, List.length_append, hrl]; rw [List.length_map] at hIl; omega
  have hR := rsL_succ l.fKnots b F B k
  have hprl : pre.length = b := by rw [List.length_map] at hIl; exact hIl
  (conv => whnf)
  (refine br_ (fun h2 => ?_) (fun h2 => ?_))
  ·obtain ⟨n, hn⟩ := at_lt' (xs := l.fKnots) (k := k) (by omega)
   have hen : (l.fKnots.map TKnot.D)[k]? = some n.D := by rw [List.getElem?_map, hn]; rfl
   have hnp := pnt_in (l3 n (List.mem_of_getElem? hn))
   have fin : ∀ q : TPt, mv1 l.fKnots b F B k = q → (pre ++ rsL l.fKnots b F B (k + 1)).map TPt.D = (pre ++ rsL l.fKnots b F B k).map TPt.D ++ [q.D] := fun q hq => by
    rw [hR, hq, ← List.append_assoc, List.map_append]; rfl
   (repeat (refine stg_ ?_))
   (refine br_ (fun h3 => ?_) (fun h3 => ?_))
   ·have hq := fin pt0 (by rw [mv1, if_pos (by omega)])
    (repeat (refine stg_ ?_))
    refine NextW.go (k + 1) (Weak.cov ⟨rfl, rfl, ?_, rfl, rfl, rfl, rfl, rfl, rfl, rfl, rfl, rfl, rfl, rfl, trivial⟩ ⟨trivial, trivial, ?_, rfl, trivial⟩ rfl) (by omega) (by omega)
    ·rw [hq]; simp only [List.length_append]; rfl
    ·rw [hq, List.take_length]; try rfl
   ·have c3 := bsr_v F ((b + k : Nat) : Int) hFs (by omega)
    have hcl := cl_le F ((b + k : Nat) : Int)
    refine ArW.i64e ((b + k : Nat) : Int) (by omega) (by omega) ?_
    (conv => whnf)
    (repeat (refine stg_ ?_))
    (refine cla_ (c3) ?_)
    (repeat (refine stg_ ?_))
    have hm0 : 0 < F.length := by omega
    generalize hcc : cl F ((b + k : Nat) : Int) = c at *
    have t1 : ((c : Int) + ((F.map (D.int .i64)).length : Nat) - 1).tmod ((F.map (D.int .i64)).length : Nat) = (((c + F.length - 1) % F.length : Nat) : Int) := by
     rw [hLF, show (c : Int) + (F.length : Nat) - 1 = ((c + F.length - 1 : Nat) : Int) by omega, Int.tmod_eq_emod_of_nonneg (by omega)]; rfl
    have t2 : (c : Int).tmod ((F.map (D.int .i64)).length : Nat) = ((c % F.length : Nat) : Int) := by
     rw [hLF, Int.tmod_eq_emod_of_nonneg (by omega)]; rfl
    have m1 := Nat.mod_lt (c + F.length - 1) hm0
    have m2 := Nat.mod_lt c hm0
    cases hfd : fd F ((b + k : Nat) : Int)
    ·obtain ⟨f1, hf1⟩ := at_lt' (xs := F) (k := (c + F.length - 1) % F.length) m1
     obtain ⟨f2, hf2⟩ := at_lt' (xs := F) (k := c % F.length) m2
     obtain ⟨p1, hp1⟩ := at_lt' (xs := B) (k := (c + F.length - 1) % F.length) (by omega)
     obtain ⟨p2, hp2⟩ := at_lt' (xs := B) (k := c % F.length) (by omega)
     have i1 := hFi _ _ hf1
     have i2 := hFi _ _ hf2
     obtain ⟨n1, hn1⟩ := at_lt' (xs := l.fKnots) (k := (f1 - (b : Int)).toNat) (by omega)
     obtain ⟨n2, hn2⟩ := at_lt' (xs := l.fKnots) (k := (f2 - (b : Int)).toNat) (by omega)
     have n1p := pnt_in (l3 n1 (List.mem_of_getElem? hn1))
     have n2p := pnt_in (l3 n2 (List.mem_of_getElem? hn2))
     have p1p := pnt_in (hBp p1 (List.mem_of_getElem? hp1))
     have p2p := pnt_in (hBp p2 (List.mem_of_getElem? hp2))
     have hq := fin ⟨bt n.fAt.fX n1.fAt.fX n2.fAt.fX p1.fX p2.fX, bt n.fAt.fY n1.fAt.fY n2.fAt.fY p1.fY p2.fY⟩ (by
      rw [mv1, if_neg (by omega), hcc, hfd, if_neg (by decide)]
      simp only [atK, atB, atF, hn, hf1, hf2, hp1, hp2, hn1, hn2, Option.map_some, Option.getD_some])
     have c4 := inferred_v n.fAt.fX n1.fAt.fX n2.fAt.fX p1.fX p2.fX (by omega)
     have c5 := inferred_v n.fAt.fY n1.fAt.fY n2.fAt.fY p1.fY p2.fY (by omega)
     have e1 : (F.map (D.int .i64))[(c + F.length - 1) % F.length]? = some (.int .i64 f1) := by rw [List.getElem?_map, hf1]; rfl
     have e2 : (F.map (D.int .i64))[c % F.length]? = some (.int .i64 f2) := by rw [List.getElem?_map, hf2]; rfl
     have e3 : (B.map TPt.D)[(c + F.length - 1) % F.length]? = some p1.D := by rw [List.getElem?_map, hp1]; rfl
     have e4 : (B.map TPt.D)[c % F.length]? = some p2.D := by rw [List.getElem?_map, hp2]; rfl
     have e5 : (l.fKnots.map TKnot.D)[(f1 - (b : Int)).toNat]? = some n1.D := by rw [List.getElem?_map, hn1]; rfl
     have e6 : (l.fKnots.map TKnot.D)[(f2 - (b : Int)).toNat]? = some n2.D := by rw [List.getElem?_map, hn2]; rfl
     (conv => whnf)
     (repeat ((fail_if_success (with_reducible apply RegD.id)); (refine stg_ ?_)))
     rw [t1, t2]
     refine RegD.cutT [(1, .d (.lst (ns.map (D.int .i64)))), (2, .d (.lst (ms.map TPt.D))), (7, .own 2 0 ((pre ++ rsL l.fKnots b F B k).map TPt.D).length), (8, .d (.int .i64 (b : Nat))), (10, .pB 3 [] 0), (11, .d (.int .i64 l.fKnots.length)), (16, .d (.lst (F.map (D.int .i64)))), (17, .d (.lst (B.map TPt.D))), (19, .pB 4 [] 0), (20, .d (.int .i64 ((c % F.length : Nat) : Int))), (22, .d (.int .i64 (((c + F.length - 1) % F.length : Nat) : Int))), (23, .pB 5 [] 0), (24, .pB 6 [] 0), (26, .d (.lst (o.fLoops.map TLoop.D))), (27, .d (.int .i64 (o.fLoops.map TLoop.D).length)), (28, .d (.int .i64 i)), (58, .d (.lst (l.fKnots.map TKnot.D))), (59, .d (.int .i64 (l.fKnots.map TKnot.D).length)), (60, .d (.int .i64 k))] [.gone, .gone, .arr 2 ((pre ++ rsL l.fKnots b F B k).map TPt.D) true, .box (.d l.D), .box (.d n.D), .box (.d n1.fAt.D), .box (.d n2.fAt.D)] trInf (treeOK_bits tbInf (by kernel_rfl) (by kernel_rfl) (by kernel_rfl)) ?_ ?_
     ·(conv => whnf)
      repeat' (first | (refine stg_ ?_) | (refine IxW.at (by omega) e5 ?_; (conv => whnf)) | (refine IxW.at (by omega) e6 ?_; (conv => whnf)) | (refine And.intro ?_ ?_ <;> (conv => whnf)))
      all_goals (refine id (α := Weak _ _ _ _) ?_)
      all_goals first | (refine Weak.cov ?_ ?_ ?_; (focus ((repeat' (first | exact trivial | with_reducible rfl | (refine ⟨?_, ?_⟩) | rfl)); done)); (focus ((repeat' (first | exact trivial | with_reducible rfl | (refine ⟨?_, ?_⟩) | rfl)); done)); (focus rfl)) | (refine Weak.trans (Weak.swap 5 6 ?_) (Weak.cov ?_ ?_ ?_); (focus rfl); (focus (repeat' (first | exact trivial | with_reducible rfl | (refine ⟨?_, ?_⟩) | rfl))); (focus (repeat' (first | exact trivial | with_reducible rfl | (refine ⟨?_, ?_⟩) | rfl))); (focus rfl))
     ·(conv => whnf)
      (repeat' (first | (refine stg_ ?_) | (refine cla_ (c4) ?_) | (refine cla_ (c5) ?_) | (refine br_ (fun hbr => ?_) (fun hbr => ?_))))
      refine NextW.go (k + 1) (Weak.cov ⟨rfl, rfl, ?_, rfl, rfl, rfl, rfl, rfl, rfl, rfl, rfl, rfl, rfl, rfl, trivial⟩ ⟨trivial, trivial, ?_, rfl, trivial⟩ rfl) (by omega) (by omega)
      ·rw [hq]; simp only [List.length_append]; rfl
      ·rw [hq, List.take_length]; try rfl
    ·obtain ⟨p, hp⟩ := at_lt' (xs := B) (k := c) (by
      have : F[cl F ((b + k : Nat) : Int)]? = some ((b + k : Nat) : Int) := by simpa [fd] using hfd
      have := (List.getElem?_eq_some_iff.1 this).1
      omega)
     have hq := fin p (by rw [mv1, if_neg (by omega), hfd, if_pos rfl, hcc, atB, hp]; rfl)
     have hep : (B.map TPt.D)[c]? = some p.D := by rw [List.getElem?_map, hp]; rfl
     (conv => whnf)
     (repeat (refine stg_ ?_))
     refine NextW.go (k + 1) (Weak.cov ⟨rfl, rfl, ?_, rfl, rfl, rfl, rfl, rfl, rfl, rfl, rfl, rfl, rfl, rfl, trivial⟩ ⟨trivial, trivial, ?_, rfl, trivial⟩ rfl) (by omega) (by omega)
     ·rw [hq]; simp only [List.length_append]; rfl
     ·rw [hq, List.take_length]; try rfl
  ·obtain rfl : k = l.fKnots.length := by omega
   (repeat (refine stg_ ?_))
   refine NextW.go (i + 1) (Weak.cov ⟨rfl, rfl, ?_, ?_, rfl, rfl, rfl, trivial⟩ ⟨trivial, trivial, ?_, trivial⟩ rfl) (by omega) (by omega)
   ·rw [hS]; rfl
   ·rw [hS2, ← hLk]; rfl
   ·rw [hS]
 ·obtain rfl : i = o.fLoops.length := by omega
  rw [List.take_length] at *
  (repeat (refine stg_ ?_))
  refine ⟨⟨[some 2], ⟨by decide, rfl, trivial, trivial⟩, by decide, rfl, ?_⟩⟩
  (conv => whnf)
  exact ⟨by decide, by rw [hIl]; rfl⟩
def imA (o : TOutline) (ns : List Int) (ms : List TPt) : Bool := outB o && (riG none ns && (decide (ms.length = ns.length) && ms.all pntB))
def imR (o : TOutline) (ns : List Int) : Bool := ns.all fun x => decide (0 ≤ x) && decide (x < (cnK o.fLoops : Nat))
def imC (o : TOutline) (ns : List Int) (ms : List TPt) : Nat := if imA o ns ms = true then (if imR o ns = true then 0 else 2) else 1
theorem imR_eq {o : TOutline} {ns : List Int} {a z : Int} (h : riG none ns = true) (ha : ns[0]? = some a) (hz : ns[ns.length - 1]? = some z) : imR o ns = (decide (0 ≤ a) && decide (z < (cnK o.fLoops : Nat))) := by
 rw [imR, Bool.eq_iff_iff]
 simp only [List.all_eq_true, Bool.and_eq_true, decide_eq_true_eq]
 constructor
 ·intro H
  exact ⟨(H a (List.mem_of_getElem? ha)).1, (H z (List.mem_of_getElem? hz)).2⟩
 ·rintro ⟨h1, h2⟩ x hx
  have := riG_first h ha x hx
  have := riG_last h hz x hx
  omega
theorem imC_in {o : TOutline} {ns : List Int} {ms : List TPt} (hn : ns.length ≤ 1048576) (h : imC o ns ms = 0) : InF o ns ms := by
 unfold imC at h
 split at h
 ·rename_i hA
  split at h
  ·rename_i hR
   simp only [imA, Bool.and_eq_true, decide_eq_true_eq, List.all_eq_true] at hA
   simp only [imR, List.all_eq_true, Bool.and_eq_true, decide_eq_true_eq] at hR
   exact ⟨hA.1, ri_srt hA.2.1, hA.2.2.1.symm, hA.2.2.2, hR, hn⟩
  ·omega
 ·omega
set_option maxHeartbeats 4000000 in
theorem InferMoves_v (o : TOutline) (ns : List Int) (ms : List TPt) (hn : ns.length ≤ 1048576) (v : V) (bs : List Blk) (h0 : imC o ns ms = 0 → v = .tup [.own 1 0 (cnK o.fLoops), .d (.int .i64 0)] ∧ bs = [.arr 2 ((inL ns ms 0 o.fLoops).map TPt.D) true])
  (h1 : ¬ imC o ns ms = 0 → v = .tup [.nils, .d (.int .i64 (imC o ns ms))] ∧ bs = []) : PC Tryz.prog 14 [.d o.D, .d (.lst (ns.map (D.int .i64))), .d (.lst (ms.map TPt.D))] v bs := by
 refine pc_intro ttOk (by kernel_rfl) Tryz.func14 rfl (by kernel_rfl) (by kernel_rfl) (by kernel_rfl) (fun hw => ?_)
 have hLn : (ns.map (D.int .i64)).length = ns.length := List.length_map _
 have hLm : (ms.map TPt.D).length = ms.length := List.length_map _
 have c1 := ValidOutline_v o
 have c2 := increasing_v ns
 have c3 := validPts_v ms
 have hC : imC o ns ms = if imA o ns ms = true then (if imR o ns = true then 0 else 2) else 1 := rfl
 have hA : imA o ns ms = (outB o && (riG none ns && (decide (ms.length = ns.length) && ms.all pntB))) := rfl
 cases hA' : imA o ns ms
 ·rw [hA', if_neg (by decide)] at hC
  obtain ⟨rfl, rfl⟩ := h1 (by omega)
  rw [hC]
  rw [hA'] at hA
  cases q1 : outB o <;> rw [q1] at c1 hA
  ·(conv => whnf)
   (repeat' (first | (refine stg_ ?_) | (refine cla_ (c1) ?_) | (refine cla_ (c2) ?_) | (refine cla_ (c3) ?_) | (refine br_ (fun hbr => ?_) (fun hbr => ?_))))
   all_goals ((refine ⟨⟨[], trivial, by decide, ⟨_, rfl, rfl, ⟨_, _, rfl, rfl, ⟨_, _, rfl, ⟨rfl, ?_⟩, rfl⟩⟩⟩⟩⟩; (conv => whnf)); all_goals rfl)
  cases q2 : riG none ns <;> rw [q2] at c2 hA
  ·(conv => whnf)
   (repeat' (first | (refine stg_ ?_) | (refine cla_ (c1) ?_) | (refine cla_ (c2) ?_) | (refine cla_ (c3) ?_) | (refine br_ (fun hbr => ?_) (fun hbr => ?_))))
   all_goals ((refine ⟨⟨[], trivial, by decide, ⟨_, rfl, rfl, ⟨_, _, rfl, rfl, ⟨_, _, rfl, ⟨rfl, ?_⟩, rfl⟩⟩⟩⟩⟩; (conv => whnf)); all_goals rfl)
  by_cases q3 : ms.length = ns.length
  rotate_left
  ·(conv => whnf)
   (repeat' (first | (refine stg_ ?_) | (refine cla_ (c1) ?_) | (refine cla_ (c2) ?_) | (refine cla_ (c3) ?_) | (refine br_ (fun hbr => ?_) (fun hbr => ?_))))
   all_goals first | (exfalso; omega) | ((refine ⟨⟨[], trivial, by decide, ⟨_, rfl, rfl, ⟨_, _, rfl, rfl, ⟨_, _, rfl, ⟨rfl, ?_⟩, rfl⟩⟩⟩⟩⟩; (conv => whnf)); all_goals rfl)
  rw [decide_eq_true q3] at hA
  cases q4 : ms.all pntB <;> rw [q4] at c3 hA
  ·(conv => whnf)
   (repeat' (first | (refine stg_ ?_) | (refine cla_ (c1) ?_) | (refine cla_ (c2) ?_) | (refine cla_ (c3) ?_) | (refine br_ (fun hbr => ?_) (fun hbr => ?_))))
   all_goals first | (exfalso; omega) | ((refine ⟨⟨[], trivial, by decide, ⟨_, rfl, rfl, ⟨_, _, rfl, rfl, ⟨_, _, rfl, ⟨rfl, ?_⟩, rfl⟩⟩⟩⟩⟩; (conv => whnf)); all_goals rfl)
  ·cases hA
 ·rw [hA', if_pos rfl] at hC
  have hA2 := hA'
  simp only [imA, Bool.and_eq_true, decide_eq_true_eq] at hA2
  obtain ⟨q1, q2, q3, q4⟩ := hA2
  rw [q1] at c1
  rw [q2] at c2
  rw [q4] at c3
  have cK := knotCount_v o q1
  rcases Nat.eq_zero_or_pos ns.length with hz | hz
  ·have hR : imR o ns = true := by rw [List.eq_nil_of_length_eq_zero hz]; rfl
   rw [hR, if_pos rfl] at hC
   have cI := inferMoves_v o ns ms (imC_in hn hC)
   obtain ⟨rfl, rfl⟩ := h0 hC
   (conv => whnf)
   (repeat' (first | (refine stg_ ?_) | (refine cla_ (c1) ?_) | (refine cla_ (c2) ?_) | (refine cla_ (c3) ?_) | (refine cla_ (cK) ?_) | (refine cla_ (cI) ?_) | (refine br_ (fun hbr => ?_) (fun hbr => ?_))))
   all_goals first | (exfalso; omega) | skip
   all_goals ((refine ⟨⟨[some 2], ⟨by decide, ?_, trivial, trivial⟩, by decide, ⟨_, rfl, rfl, ⟨_, _, rfl, ⟨by decide, ?_⟩, ⟨_, _, rfl, ⟨rfl, ?_⟩, rfl⟩⟩⟩⟩⟩); all_goals rfl)
  ·obtain ⟨a, ha⟩ := at_lt' (xs := ns) (k := 0) hz
   obtain ⟨z, hz'⟩ := at_lt' (xs := ns) (k := ns.length - 1) (by omega)
   have hRe := imR_eq (o := o) q2 ha hz'
   have ha2 : (ns.map (D.int .i64))[0]? = some (.int .i64 a) := by rw [List.getElem?_map, ha]; rfl
   have hz2 : (ns.map (D.int .i64))[(((ns.map (D.int .i64)).length : Int) - 1).toNat]? = some (.int .i64 z) := by
    have : (((ns.map (D.int .i64)).length : Int) - 1).toNat = ns.length - 1 := by omega
    rw [this, List.getElem?_map, hz']; rfl
   cases hR : imR o ns
   ·rw [hR, if_neg (by decide)] at hC
    obtain ⟨rfl, rfl⟩ := h1 (by omega)
    rw [hC]
    rw [hR] at hRe
    have hbad : ¬ (0 ≤ a ∧ z < (cnK o.fLoops : Nat)) := fun h => by rw [decide_eq_true h.1, decide_eq_true h.2] at hRe; cases hRe
    (conv => whnf)
    (repeat' (first | (refine stg_ ?_) | (refine cla_ (c1) ?_) | (refine cla_ (c2) ?_) | (refine cla_ (c3) ?_) | (refine cla_ (cK) ?_) | (refine IxW.at (by omega) hz2 ?_; (conv => whnf)) | (refine br_ (fun hbr => ?_) (fun hbr => ?_))))
    all_goals first | (exfalso; omega) | ((refine ⟨⟨[], trivial, by decide, ⟨_, rfl, rfl, ⟨_, _, rfl, rfl, ⟨_, _, rfl, ⟨rfl, ?_⟩, rfl⟩⟩⟩⟩⟩; (conv => whnf)); all_goals rfl)
   ·rw [hR, if_pos rfl] at hC
    rw [hR] at hRe
    have hgood : 0 ≤ a ∧ z < (cnK o.fLoops : Nat) := by
     have := hRe.symm
     simp only [Bool.and_eq_true, decide_eq_true_eq] at this
     exact this
    have cI := inferMoves_v o ns ms (imC_in hn hC)
    obtain ⟨rfl, rfl⟩ := h0 hC
    (conv => whnf)
    (repeat' (first | (refine stg_ ?_) | (refine cla_ (c1) ?_) | (refine cla_ (c2) ?_) | (refine cla_ (c3) ?_) | (refine cla_ (cK) ?_) | (refine IxW.at (by omega) hz2 ?_; (conv => whnf)) | (refine cla_ (cI) ?_) | (refine br_ (fun hbr => ?_) (fun hbr => ?_))))
    all_goals first | (exfalso; omega) | skip
    all_goals ((refine ⟨⟨[some 2], ⟨by decide, ?_, trivial, trivial⟩, by decide, ⟨_, rfl, rfl, ⟨_, _, rfl, ⟨by decide, ?_⟩, ⟨_, _, rfl, ⟨rfl, ?_⟩, rfl⟩⟩⟩⟩⟩); all_goals rfl)
theorem l00Has_v (xs : List Int) (n : Int) : PC Tryz.prog 131 [.d (.lst (xs.map (D.int .i64))), .d (.int .i64 n)] (.d (.bool (decide (n ∈ xs)))) [] := by
 refine pc_intro ttOk (by kernel_rfl) Tryz.func131 rfl (by kernel_rfl) (by kernel_rfl) (by kernel_rfl) (fun hw => ?_)
 have hL : (xs.map (D.int .i64)).length = xs.length := List.length_map _
 have hm : (xs.map (D.int .i64)).length ≤ 9223372036854775807 := hw.1.1
 (conv => whnf)
 refine LoopW.go (α := Nat) (fun k => [(0, .d (.lst (xs.map (D.int .i64)))), (1, .d (.int .i64 n)), (5, .d (.int .i64 k))]) (fun k => [.gone]) (fun k => k ≤ xs.length ∧ ¬ n ∈ xs.take k) (fun k => xs.length - k) 0 covT_ ?_ (fun k hk => ?_)
 ·exact ⟨by omega, by simp⟩
 obtain ⟨hk1, hk2⟩ := hk
 (conv => whnf)
 (refine br_ (fun h2 => ?_) (fun h2 => ?_) <;> (repeat (refine stg_ ?_)))
 ·obtain ⟨x, hx⟩ := at_lt' (xs := xs) (k := k) (by omega)
  (repeat (refine stg_ ?_))
  (refine br_ (fun h3 => ?_) (fun h3 => ?_) <;> (repeat (refine stg_ ?_)))
  ·(refine RetOK.d rfl rfl ?_; conv => whnf)
   rw [decide_eq_true]
   rw [← h3]; exact List.mem_of_getElem? hx
  ·(repeat (refine stg_ ?_))
   exact NextW.go (k + 1) covT_ ⟨by omega, by rw [take_snoc_get hx]; simp only [List.mem_append, List.mem_singleton]; rintro (h | h); (focus exact hk2 h); exact h3 h.symm⟩ (by omega)
 ·(refine RetOK.d rfl rfl ?_; conv => whnf)
  rw [List.take_of_length_le (by omega)] at hk2
  rw [decide_eq_false hk2]
theorem l30Last_v (ns : List Int) (n : Int) : PC Tryz.prog 53 [.d (.lst (ns.map (D.int .i64))), .d (.int .i64 n)] (.d (.bool (match ns[ns.length - 1]? with | some z => decide (z < n) | none => true))) [] := by
 refine pc_intro ttOk (by kernel_rfl) Tryz.func53 rfl (by kernel_rfl) (by kernel_rfl) (by kernel_rfl) (fun hw => ?_)
 have hL : (ns.map (D.int .i64)).length = ns.length := List.length_map _
 have hm : (ns.map (D.int .i64)).length ≤ 9223372036854775807 := hw.1.1
 rcases Nat.eq_zero_or_pos ns.length with hz | hz
 ·rw [List.getElem?_eq_none (by omega)]
  (conv => whnf)
  (repeat' (first | (refine stg_ ?_) | fail | (refine br_ (fun hbr => ?_) (fun hbr => ?_))))
  all_goals first | (exfalso; omega) | ((refine RetOK.d rfl rfl ?_; conv => whnf); done) | ((refine RetOK.d rfl rfl ?_; conv => whnf); rfl)
 ·obtain ⟨z, hz'⟩ := at_lt' (xs := ns) (k := ns.length - 1) (by omega)
  have hz2 : (ns.map (D.int .i64))[(((ns.map (D.int .i64)).length : Int) - 1).toNat]? = some (.int .i64 z) := by
   have : (((ns.map (D.int .i64)).length : Int) - 1).toNat = ns.length - 1 := by omega
   rw [this, List.getElem?_map, hz']; rfl
  rw [hz']
  (conv => whnf)
  (repeat' (first | (refine stg_ ?_) | (refine IxW.at (by omega) hz2 ?_; (conv => whnf)) | (refine br_ (fun hbr => ?_) (fun hbr => ?_))))
  all_goals first | (exfalso; omega) | ((refine RetOK.d rfl rfl ?_; conv => whnf); done) | ((refine RetOK.d rfl rfl ?_; conv => whnf); rfl) | ((refine RetOK.d rfl rfl ?_; conv => whnf); simp)
theorem prod_small {a b : Int} (h1 : 0 ≤ a) (h2 : a ≤ 16384) (h3 : 0 ≤ b) (h4 : b ≤ 16384) : 0 ≤ a * b ∧ a * b ≤ 268435456 := by
 have e1 : 0 ≤ a * b := Int.mul_nonneg h1 h3
 have e2 : a * b ≤ 16384 * b := Int.mul_le_mul_of_nonneg_right h2 h3
 omega
theorem mfNeg_v (p : TPeak) : PC Tryz.prog 35 [.d p.D] (.d (.bool (!pkB p))) [] := by
 refine pc_intro ttOk (by kernel_rfl) Tryz.func35 rfl (by kernel_rfl) (by kernel_rfl) (by kernel_rfl) (fun hw => ?_)
 (conv => whnf)
 (repeat' (first | (refine stg_ ?_) | (refine cla_ (ValidPeak_v p) ?_) | (refine br_ (fun hbr => ?_) (fun hbr => ?_))))
 all_goals ((refine RetOK.d rfl rfl ?_; conv => whnf); try rfl)
theorem masterFactor_v (m : TMaster) (ns : List Int) (h1 : m.fPeaks.all pkB = true) (h2 : nmsB ns m.fPeaks.length = true) : PC Tryz.prog 38 [.d m.D, .d (.lst (ns.map (D.int .i64)))] (.d (.int .i64 (mfK m.fPeaks ns m.fPeaks.length))) [] := by
 refine pc_intro ttOk (by kernel_rfl) Tryz.func38 rfl (by kernel_rfl) (by kernel_rfl) (by kernel_rfl) (fun hw => ?_)
 have hL : (m.fPeaks.map TPeak.D).length = m.fPeaks.length := List.length_map _
 have hm : (m.fPeaks.map TPeak.D).length ≤ 9223372036854775807 := hw.1.1.1
 have hl := nms_len h2
 (conv => whnf)
 refine LoopW.go (α := Nat) (fun k => [(1, .d (.lst (ns.map (D.int .i64)))), (5, .d (.int .i64 (mfK m.fPeaks ns k))), (9, .d (.lst (m.fPeaks.map TPeak.D))), (10, .d (.int .i64 (m.fPeaks.map TPeak.D).length)), (11, .d (.int .i64 k))]) (fun k => [.gone]) (fun k => k ≤ m.fPeaks.length) (fun k => m.fPeaks.length - k) 0 covT_ ?_ (fun k hk => ?_)
 ·omega
 (conv => whnf)
 (refine br_ (fun h3 => ?_) (fun h3 => ?_) <;> (repeat (refine stg_ ?_)))
 ·obtain ⟨p, hp⟩ := at_lt' (xs := m.fPeaks) (k := k) (by omega)
  obtain ⟨q, hq⟩ := at_lt' (xs := ns) (k := k) (by omega)
  have b1 := mfK_bnd (ns := ns) h1 k
  have pb := List.all_eq_true.1 h1 p (List.mem_of_getElem? hp)
  have b2 := pkF_bnd pb q
  have b3 := prod_small b1.1 b1.2 b2.1 b2.2
  (repeat' (first | (refine stg_ ?_) | (refine cl_ (peakFactor_v p q pb (nms_at h2 hq)) ?_) | (refine cl_ (DivRound_v _ _) ?_) | (refine br_ (fun hbr => ?_) (fun hbr => ?_))))
  exact NextW.go (k + 1) (Weak.cov ⟨rfl, by rw [mfK_at hp hq]; rfl, rfl, rfl, rfl, trivial⟩ ⟨trivial, trivial⟩ rfl) (by omega) (by omega)
 ·(refine RetOK.d rfl rfl ?_; conv => whnf)
  obtain rfl : k = m.fPeaks.length := by omega
  rfl
theorem MasterFactor_v (m : TMaster) (ns : List Int) : PC Tryz.prog 12 [.d m.D, .d (.lst (ns.map (D.int .i64)))] (.tup [.d (.int .i64 (mfV m.fPeaks ns)), .d (.int .i64 (mfC m.fPeaks ns))]) [] := by
 refine pc_intro ttOk (by kernel_rfl) Tryz.func12 rfl (by kernel_rfl) (by kernel_rfl) (by kernel_rfl) (fun hw => ?_)
 have hL : (m.fPeaks.map TPeak.D).length = m.fPeaks.length := List.length_map _
 have hm : (m.fPeaks.map TPeak.D).length ≤ 9223372036854775807 := hw.1.1.1
 have hP : pksB m.fPeaks = (decide (m.fPeaks.length ≤ 3) && !m.fPeaks.any (fun p => !pkB p)) := by rw [pksB, List.all_eq_not_any_not]
 have c2 := areNormals_v ns m.fPeaks.length
 rw [← hL] at c2
 have hV : mfV m.fPeaks ns = if pksB m.fPeaks = true then (if nmsB ns m.fPeaks.length = true then mfK m.fPeaks ns m.fPeaks.length else 0) else 0 := rfl
 have hC : mfC m.fPeaks ns = if pksB m.fPeaks = true then (if nmsB ns m.fPeaks.length = true then 0 else 2) else 1 := rfl
 rw [hV, hC]
 cases h1 : pksB m.fPeaks
 ·(conv => whnf)
  (repeat' (first | (refine stg_ ?_) | (refine cla_ (ctPeak_v m.fPeaks _ (fun p => !pkB p) mfNeg_v) ?_) | (refine br_ (fun hbr => ?_) (fun hbr => ?_))))
  all_goals first | (exfalso; omega) | ((refine RetOK.t rfl ?_; (repeat' ((conv => whnf); (first | done | (refine ⟨_, _, rfl, ⟨rfl, ?_⟩, ?_⟩) | fail))); (all_goals (conv => whnf))); (all_goals rfl)) | (exfalso; rw [h1] at hP; simp_all; done) | (exfalso; rw [h1] at hP; simp_all; omega)
 ·have ha : m.fPeaks.all pkB = true := by simp only [pksB, Bool.and_eq_true] at h1; exact h1.2
  have hl3 : m.fPeaks.length ≤ 3 := by simp only [pksB, Bool.and_eq_true, decide_eq_true_eq] at h1; exact h1.1
  have hany : m.fPeaks.any (fun p => !pkB p) = false := by rw [List.all_eq_not_any_not] at ha; simpa using ha
  cases h2 : nmsB ns m.fPeaks.length
  ·(conv => whnf)
   (repeat' (first | (refine stg_ ?_) | (refine cla_ (ctPeak_v m.fPeaks _ (fun p => !pkB p) mfNeg_v) ?_) | (refine cla_ (c2) ?_) | (refine br_ (fun hbr => ?_) (fun hbr => ?_))))
   all_goals first | (exfalso; omega) | (exfalso; rw [hL] at *; simp_all; done) | ((refine RetOK.t rfl ?_; (repeat' ((conv => whnf); (first | done | (refine ⟨_, _, rfl, ⟨rfl, ?_⟩, ?_⟩) | fail))); (all_goals (conv => whnf))); (all_goals rfl))
  ·(conv => whnf)
   (repeat' (first | (refine stg_ ?_) | (refine cla_ (ctPeak_v m.fPeaks _ (fun p => !pkB p) mfNeg_v) ?_) | (refine cla_ (c2) ?_) | (refine cla_ (masterFactor_v m ns ha h2) ?_) | (refine br_ (fun hbr => ?_) (fun hbr => ?_))))
   all_goals first | (exfalso; omega) | (exfalso; rw [hL] at *; simp_all; done) | ((refine RetOK.t rfl ?_; (repeat' ((conv => whnf); (first | done | (refine ⟨_, _, rfl, ⟨rfl, ?_⟩, ?_⟩) | fail))); (all_goals (conv => whnf))); (all_goals rfl))
def ltB (ns : List Int) (n : Int) : Bool := match ns[ns.length - 1]? with
 | some z => decide (z < n)
 | none => true
def dvB (gs : List TGlyph) (d : TGlyphDelta) : Bool := match gs[d.fGlyph.toNat]? with
 | none => false
 | some g => ltB d.fKnots (cnK g.fOutline.fLoops : Nat)
theorem l30Lst_v (ns : List Int) (n : Int) : PC Tryz.prog 53 [.d (.lst (ns.map (D.int .i64))), .d (.int .i64 n)] (.d (.bool (ltB ns n))) [] := l30Last_v ns n
theorem knG_cnt : ∀ (ks : List Int) (o : Option Int) (b : Int), knG o ks = true → (∀ q, o = some q → b ≤ q + 1) → (∀ k ∈ ks, b ≤ k) → b ≤ 720 → (ks.length : Int) ≤ 720 - b
 | [], _, b, _, _, _, h => by simp; omega
 | x :: t, o, b, h, ho, hk, hb => by
  have h1 := knG_ri _ _ h
  simp only [knG, Bool.and_eq_true] at h
  have hx := h1.2 x (by simp)
  have hr := riG_lt (knG_ri _ _ h.2.2).1
  have := knG_cnt t (some x) (x + 1) h.2.2 (fun q e => by cases e; omega) (fun k hk => by have := hr k hk; omega) (by omega)
  have := hk x (by simp)
  rw [List.length_cons]
  omega
theorem gd_len {d : TGlyphDelta} (h : gdB d = true) : d.fKnots.length ≤ 720 := by
 have h1 : gdB d = (inB d.fGlyph 0 39 && (knG none d.fKnots && (decide (d.fKnots.length = d.fMoves.length) && (d.fMoves.all pntB && inB d.fAdvance (-262144) 262144)))) := rfl
 rw [h1] at h
 simp only [Bool.and_eq_true] at h
 have h2 := knG_ri _ _ h.2.1
 have := knG_cnt d.fKnots none 0 h.2.1 (fun q e => by cases e) (fun k hk => (h2.2 k hk).1) (by omega)
 omega
def vvB (v : TVariation) (s : TGlyphSet) : Bool := wfB v && (gsB s && v.fMasters.all fun m => m.fDeltas.all (dvB s.fGlyphs))
theorem wf_delta {v : TVariation} (h : wfB v = true) {m : TMaster} (hm : m ∈ v.fMasters) {d : TGlyphDelta} (hd : d ∈ m.fDeltas) : gdB d = true := by
 have h1 : wfB v = (axsB v.fAxes && (decide (v.fMasters.length ≤ 8) && v.fMasters.all (maB v.fAxes.length))) := rfl
 rw [h1] at h
 simp only [Bool.and_eq_true, List.all_eq_true] at h
 have h2 := h.2.2 m hm
 have h3 : maB v.fAxes.length m = (decide (m.fPeaks.length = v.fAxes.length) && (decide (m.fDeltas.length ≤ 20) && (m.fPeaks.all pkB && dsG none m.fDeltas))) := rfl
 rw [h3] at h2
 simp only [Bool.and_eq_true] at h2
 have key : ∀ (ds : List TGlyphDelta) (o : Option TGlyphDelta), dsG o ds = true → ∀ d ∈ ds, gdB d = true := by
  intro ds
  induction ds with
  | nil => intro _ _ d hd; simp at hd
  | cons x ds ih =>
   intro o h d hd
   simp only [dsG, Bool.and_eq_true] at h
   rcases List.mem_cons.1 hd with rfl | hd
   ·exact h.1
   ·exact ih _ h.2.2 d hd
 exact key _ _ h2.2.2.2 d hd
theorem wf_dlen {v : TVariation} (h : wfB v = true) {m : TMaster} (hm : m ∈ v.fMasters) : m.fPeaks.length = v.fAxes.length ∧ m.fDeltas.length ≤ 20 ∧ m.fPeaks.all pkB = true := by
 have h1 : wfB v = (axsB v.fAxes && (decide (v.fMasters.length ≤ 8) && v.fMasters.all (maB v.fAxes.length))) := rfl
 rw [h1] at h
 simp only [Bool.and_eq_true, List.all_eq_true] at h
 have h2 := h.2.2 m hm
 have h3 : maB v.fAxes.length m = (decide (m.fPeaks.length = v.fAxes.length) && (decide (m.fDeltas.length ≤ 20) && (m.fPeaks.all pkB && dsG none m.fDeltas))) := rfl
 rw [h3] at h2
 simp only [Bool.and_eq_true, decide_eq_true_eq] at h2
 exact ⟨h2.1, h2.2.1, h2.2.2.1⟩
theorem gd_glyph {d : TGlyphDelta} (h : gdB d = true) : 0 ≤ d.fGlyph ∧ d.fGlyph ≤ 39 := by
 have h1 : gdB d = (inB d.fGlyph 0 39 && (knG none d.fKnots && (decide (d.fKnots.length = d.fMoves.length) && (d.fMoves.all pntB && inB d.fAdvance (-262144) 262144)))) := rfl
 rw [h1] at h
 simp only [Bool.and_eq_true, inB, decide_eq_true_eq] at h
 omega
theorem gs_glyph {s : TGlyphSet} (h : gsB s = true) {g : TGlyph} (hg : g ∈ s.fGlyphs) : glB g = true := by
 have h1 : gsB s = (inB s.fUnit 16 16384 && (decide (s.fGlyphs.length ≤ 40) && (gsG [] s.fGlyphs && gordB (psG s.fGlyphs)))) := rfl
 rw [h1] at h
 simp only [Bool.and_eq_true] at h
 exact gsG_all h.2.2.1 g hg
theorem gl_out {g : TGlyph} (h : glB g = true) : outB g.fOutline = true := by
 simp only [glB, Bool.and_eq_true] at h
 exact h.2.2.2.1
set_option maxHeartbeats 4000000 in
theorem ValidVariation_v (v : TVariation) (s : TGlyphSet) : PC Tryz.prog 30 [.d v.D, .d s.D] (.d (.bool (vvB v s))) [] := by
 refine pc_intro ttOk (by kernel_rfl) Tryz.func30 rfl (by kernel_rfl) (by kernel_rfl) (by kernel_rfl) (fun hw => ?_)
 have hL : (v.fMasters.map TMaster.D).length = v.fMasters.length := List.length_map _
 have hLg : (s.fGlyphs.map TGlyph.D).length = s.fGlyphs.length := List.length_map _
 have hm : (v.fMasters.map TMaster.D).length ≤ 9223372036854775807 := hw.1.2.1.1
 have hm2 : (s.fGlyphs.map TGlyph.D).length ≤ 9223372036854775807 := hw.2.1.2.1.1
 have c0 := wellFormed_v v
 have c1 := ValidGlyphSet_v s
 have hG : vvB v s = (wfB v && (gsB s && v.fMasters.all fun m => m.fDeltas.all (dvB s.fGlyphs))) := rfl
 generalize vvB v s = RR at *
 cases hB : wfB v <;> rw [hB] at c0 hG
 ·(conv => whnf)
  (repeat' (first | (refine stg_ ?_) | (refine cla_ (c0) ?_) | (refine cla_ (c1) ?_) | (refine br_ (fun hbr => ?_) (fun hbr => ?_))))
  all_goals first | (exfalso; simp_all; done) | ((refine RetOK.d rfl rfl ?_; conv => whnf); rw [hG]; rfl)
 cases hB2 : gsB s <;> rw [hB2] at c1 hG
 ·(conv => whnf)
  (repeat' (first | (refine stg_ ?_) | (refine cla_ (c0) ?_) | (refine cla_ (c1) ?_) | (refine br_ (fun hbr => ?_) (fun hbr => ?_))))
  all_goals first | (exfalso; simp_all; done) | ((refine RetOK.d rfl rfl ?_; conv => whnf); rw [hG]; rfl)
 rw [Bool.true_and, Bool.true_and] at hG
 (conv => whnf)
 (repeat' (first | (refine stg_ ?_) | (refine cla_ (c0) ?_) | (refine cla_ (c1) ?_) | (refine br_ (fun hbr => ?_) (fun hbr => ?_))))
 all_goals first | (exfalso; simp_all; done) | skip
 clear c0 c1
 refine LoopW.go (α := Nat) (fun k => [(2, .pB 1 [] 0), (3, .pB 2 [] 0), (19, .d (.lst (v.fMasters.map TMaster.D))), (20, .d (.int .i64 (v.fMasters.map TMaster.D).length)), (21, .d (.int .i64 k))]) (fun k => [.gone, .box (.d v.D), .box (.d s.D)]) (fun k => k ≤ v.fMasters.length ∧ RR = (v.fMasters.drop k).all (fun m => m.fDeltas.all (dvB s.fGlyphs))) (fun k => v.fMasters.length - k) 0 covT_ ?_ (fun k hk => ?_)
 ·exact ⟨by omega, hG⟩
 obtain ⟨hk1, hk2⟩ := hk
 (conv => whnf)
 (refine br_ (fun h2 => ?_) (fun h2 => ?_) <;> (repeat (refine stg_ ?_)))
 ·obtain ⟨m, hx⟩ := at_lt' (xs := v.fMasters) (k := k) (by omega)
  rw [drop_at hx, List.all_cons] at hk2
  have hmm := List.mem_of_getElem? hx
  have hd20 := (wf_dlen hB hmm).2.1
  have hLd : (m.fDeltas.map TGlyphDelta.D).length = m.fDeltas.length := List.length_map _
  (repeat (refine stg_ ?_))
  refine LoopW.go (α := Nat) (fun j => [(2, .pB 1 [] 0), (3, .pB 2 [] 0), (19, .d (.lst (v.fMasters.map TMaster.D))), (20, .d (.int .i64 (v.fMasters.map TMaster.D).length)), (21, .d (.int .i64 k)), (26, .d (.lst (m.fDeltas.map TGlyphDelta.D))), (27, .d (.int .i64 (m.fDeltas.map TGlyphDelta.D).length)), (28, .d (.int .i64 j))]) (fun j => [.gone, .box (.d v.D), .box (.d s.D)]) (fun j => j ≤ m.fDeltas.length ∧ m.fDeltas.all (dvB s.fGlyphs) = (m.fDeltas.drop j).all (dvB s.fGlyphs)) (fun j => m.fDeltas.length - j) 0 covT_ ⟨by omega, rfl⟩ (fun j hj => ?_)
  obtain ⟨hj1, hj2⟩ := hj
  (conv => whnf)
  (refine br_ (fun h3 => ?_) (fun h3 => ?_) <;> (repeat (refine stg_ ?_)))
  ·obtain ⟨d, hd⟩ := at_lt' (xs := m.fDeltas) (k := j) (by omega)
   rw [drop_at hd, List.all_cons] at hj2
   have hdB := gd_glyph (wf_delta hB hmm (List.mem_of_getElem? hd))
   have hk720 := gd_len (wf_delta hB hmm (List.mem_of_getElem? hd))
   have hLk : (d.fKnots.map (D.int .i64)).length = d.fKnots.length := List.length_map _
   rcases Nat.lt_or_ge d.fGlyph.toNat s.fGlyphs.length with hlt | hge
   ·obtain ⟨g, hg⟩ := at_lt' (xs := s.fGlyphs) (k := d.fGlyph.toNat) hlt
    have c2 := knotCount_v g.fOutline (gl_out (gs_glyph hB2 (List.mem_of_getElem? hg)))
    have hg' : (s.fGlyphs.map TGlyph.D)[d.fGlyph.toNat]? = some g.D := by rw [List.getElem?_map, hg]; rfl
    rcases Nat.eq_zero_or_pos d.fKnots.length with hz | hz
    ·have hv : dvB s.fGlyphs d = true := by rw [dvB, hg]; dsimp only; rw [ltB, List.getElem?_eq_none (by omega)]
     rw [hv, Bool.true_and] at hj2
     (repeat' (first | (refine stg_ ?_) | (refine cla_ (c2) ?_) | (refine IxW.at (by omega) hg' ?_; (conv => whnf)) | (refine br_ (fun hbr => ?_) (fun hbr => ?_))))
     all_goals first | (exfalso; omega) | (exact NextW.go (j + 1) covT_ ⟨by omega, hj2⟩ (by omega))
    ·obtain ⟨z, hz1⟩ := at_lt' (xs := d.fKnots) (k := d.fKnots.length - 1) (by omega)
     have hz2 : (d.fKnots.map (D.int .i64))[(((d.fKnots.map (D.int .i64)).length : Int) - 1).toNat]? = some (.int .i64 z) := by
      have : (((d.fKnots.map (D.int .i64)).length : Int) - 1).toNat = d.fKnots.length - 1 := by omega
      rw [this, List.getElem?_map, hz1]; rfl
     have hv : dvB s.fGlyphs d = decide (z < (cnK g.fOutline.fLoops : Nat)) := by rw [dvB, hg]; dsimp only; rw [ltB, hz1]
     rw [hv] at hj2
     (repeat' (first | (refine stg_ ?_) | (refine cla_ (c2) ?_) | (refine IxW.at (by omega) hg' ?_; (conv => whnf)) | (refine IxW.at (by omega) hz2 ?_; (conv => whnf)) | (refine br_ (fun hbr => ?_) (fun hbr => ?_))))
     all_goals first | (exfalso; omega) | skip
     all_goals first | (exact NextW.go (j + 1) covT_ ⟨by omega, by rw [hj2, decide_eq_true (by omega)]; rfl⟩ (by omega)) | ((refine RetOK.d rfl rfl ?_; conv => whnf); rw [hk2, hj2, decide_eq_false (by omega)]; rfl)
   ·have hv : dvB s.fGlyphs d = false := by rw [dvB, List.getElem?_eq_none hge]
    rw [hv] at hj2
    (repeat' (first | (refine stg_ ?_) | fail | (refine br_ (fun hbr => ?_) (fun hbr => ?_))))
    all_goals first | (exfalso; omega) | ((refine RetOK.d rfl rfl ?_; conv => whnf); rw [hk2, hj2]; rfl)
  ·rw [List.drop_eq_nil_of_le (by omega)] at hj2
   rw [hj2] at hk2
   (repeat (refine stg_ ?_))
   exact NextW.go (k + 1) covT_ ⟨by omega, hk2⟩ (by omega)
 ·(refine RetOK.d rfl rfl ?_; conv => whnf)
  rw [hk2, List.drop_eq_nil_of_le (by omega)]; rfl
set_option maxHeartbeats 4000000 in
theorem l30Ok_v (v : TVariation) (s : TGlyphSet) : PC Tryz.prog 18 [.pX v.D, .pX s.D] (.d (.bool (vvB v s))) [] := by
 refine pc_intro ttOk (by kernel_rfl) Tryz.func18 rfl (by kernel_rfl) (by kernel_rfl) (by kernel_rfl) (fun hw => ?_)
 have hL : (v.fMasters.map TMaster.D).length = v.fMasters.length := List.length_map _
 have hLg : (s.fGlyphs.map TGlyph.D).length = s.fGlyphs.length := List.length_map _
 have hm : (v.fMasters.map TMaster.D).length ≤ 9223372036854775807 := hw.1.2.1.1
 have hm2 : (s.fGlyphs.map TGlyph.D).length ≤ 9223372036854775807 := hw.2.1.2.1.1
 have c0 := l30Formed_v v
 have c1 := l17Ok_v s
 have hG : vvB v s = (wfB v && (gsB s && v.fMasters.all fun m => m.fDeltas.all (dvB s.fGlyphs))) := rfl
 generalize vvB v s = RR at *
 cases hB : wfB v <;> rw [hB] at c0 hG
 ·(conv => whnf)
  (repeat' (first | (refine stg_ ?_) | (refine cla_ (c0) ?_) | (refine cla_ (c1) ?_) | (refine br_ (fun hbr => ?_) (fun hbr => ?_))))
  all_goals first | (exfalso; simp_all; done) | ((refine RetOK.d rfl rfl ?_; conv => whnf); rw [hG]; rfl)
 cases hB2 : gsB s <;> rw [hB2] at c1 hG
 ·(conv => whnf)
  (repeat' (first | (refine stg_ ?_) | (refine cla_ (c0) ?_) | (refine cla_ (c1) ?_) | (refine br_ (fun hbr => ?_) (fun hbr => ?_))))
  all_goals first | (exfalso; simp_all; done) | ((refine RetOK.d rfl rfl ?_; conv => whnf); rw [hG]; rfl)
 rw [Bool.true_and, Bool.true_and] at hG
 (conv => whnf)
 (repeat' (first | (refine stg_ ?_) | (refine cla_ (c0) ?_) | (refine cla_ (c1) ?_) | (refine br_ (fun hbr => ?_) (fun hbr => ?_))))
 all_goals first | (exfalso; simp_all; done) | skip
 clear c0 c1
 refine LoopW.go (α := Nat) (fun k => [(0, .pX v.D), (1, .pX s.D), (5, .d (.int .i64 k))]) (fun k => [.gone]) (fun k => k ≤ v.fMasters.length ∧ RR = (v.fMasters.drop k).all (fun m => m.fDeltas.all (dvB s.fGlyphs))) (fun k => v.fMasters.length - k) 0 covT_ ?_ (fun k hk => ?_)
 ·exact ⟨by omega, hG⟩
 obtain ⟨hk1, hk2⟩ := hk
 (conv => whnf)
 (refine br_ (fun h2 => ?_) (fun h2 => ?_) <;> (repeat (refine stg_ ?_)))
 ·obtain ⟨m, hx⟩ := at_lt' (xs := v.fMasters) (k := k) (by omega)
  rw [drop_at hx, List.all_cons] at hk2
  have hmm := List.mem_of_getElem? hx
  have hd20 := (wf_dlen hB hmm).2.1
  have hLd : (m.fDeltas.map TGlyphDelta.D).length = m.fDeltas.length := List.length_map _
  (repeat (refine stg_ ?_))
  refine LoopW.go (α := Nat) (fun j => [(0, .pX v.D), (1, .pX s.D), (5, .d (.int .i64 k)), (6, .d (.int .i64 j))]) (fun j => [.gone]) (fun j => j ≤ m.fDeltas.length ∧ m.fDeltas.all (dvB s.fGlyphs) = (m.fDeltas.drop j).all (dvB s.fGlyphs)) (fun j => m.fDeltas.length - j) 0 covT_ ⟨by omega, rfl⟩ (fun j hj => ?_)
  obtain ⟨hj1, hj2⟩ := hj
  (conv => whnf)
  (repeat (refine stg_ ?_))
  (refine br_ (fun h3 => ?_) (fun h3 => ?_) <;> (repeat (refine stg_ ?_)))
  ·obtain ⟨d, hd⟩ := at_lt' (xs := m.fDeltas) (k := j) (by omega)
   rw [drop_at hd, List.all_cons] at hj2
   have hdB := gd_glyph (wf_delta hB hmm (List.mem_of_getElem? hd))
   have hk720 := gd_len (wf_delta hB hmm (List.mem_of_getElem? hd))
   have hLk : (d.fKnots.map (D.int .i64)).length = d.fKnots.length := List.length_map _
   rcases Nat.lt_or_ge d.fGlyph.toNat s.fGlyphs.length with hlt | hge
   ·obtain ⟨g, hg⟩ := at_lt' (xs := s.fGlyphs) (k := d.fGlyph.toNat) hlt
    have c2 := l30Count_v g.fOutline (gl_out (gs_glyph hB2 (List.mem_of_getElem? hg)))
    have c3 := l30Lst_v d.fKnots (cnK g.fOutline.fLoops : Nat)
    have hg' : (s.fGlyphs.map TGlyph.D)[d.fGlyph.toNat]? = some g.D := by rw [List.getElem?_map, hg]; rfl
    have hv : dvB s.fGlyphs d = ltB d.fKnots (cnK g.fOutline.fLoops : Nat) := by rw [dvB, hg]
    rw [hv] at hj2
    generalize ltB d.fKnots (cnK g.fOutline.fLoops : Nat) = LL at *
    cases LL
    ·(repeat' (first | (refine stg_ ?_) | (refine cla_ (c2) ?_) | (refine cla_ (c3) ?_) | (refine IxW.at (by omega) hg' ?_; (conv => whnf)) | (refine br_ (fun hbr => ?_) (fun hbr => ?_))))
     all_goals first | (exfalso; omega) | (exfalso; simp_all; done) | ((refine RetOK.d rfl rfl ?_; conv => whnf); rw [hk2, hj2]; rfl)
    ·rw [Bool.true_and] at hj2
     (repeat' (first | (refine stg_ ?_) | (refine cla_ (c2) ?_) | (refine cla_ (c3) ?_) | (refine IxW.at (by omega) hg' ?_; (conv => whnf)) | (refine br_ (fun hbr => ?_) (fun hbr => ?_))))
     all_goals first | (exfalso; omega) | (exfalso; simp_all; done) | (exact NextW.go (j + 1) covT_ ⟨by omega, hj2⟩ (by omega))
   ·have hv : dvB s.fGlyphs d = false := by rw [dvB, List.getElem?_eq_none hge]
    rw [hv] at hj2
    (repeat' (first | (refine stg_ ?_) | fail | (refine br_ (fun hbr => ?_) (fun hbr => ?_))))
    all_goals first | (exfalso; omega) | ((refine RetOK.d rfl rfl ?_; conv => whnf); rw [hk2, hj2]; rfl)
  ·rw [List.drop_eq_nil_of_le (by omega)] at hj2
   rw [hj2] at hk2
   (repeat (refine stg_ ?_))
   exact NextW.go (k + 1) covT_ ⟨by omega, hk2⟩ (by omega)
 ·(refine RetOK.d rfl rfl ?_; conv => whnf)
  rw [hk2, List.drop_eq_nil_of_le (by omega)]; rfl
theorem divR_ge {n d c : Int} (hd : 0 < d) (h : c * d ≤ n) : c ≤ divR n d := by
 have h1 : c ≤ n / d := Int.le_ediv_of_mul_le hd h
 rw [divR_pos hd]
 split <;> omega
theorem divR_le' {n d c : Int} (hd : 0 < d) (h : n ≤ c * d) : divR n d ≤ c := divR_le hd h
theorem bt0_bnd {x a b c d m : Int} (hc : -m ≤ c ∧ c ≤ m) (hd : -m ≤ d ∧ d ≤ m) : -(3 * m) ≤ bt0 x a b c d ∧ bt0 x a b c d ≤ 3 * m := by
 unfold bt0
 split
 ·split <;> omega
 ·split
  ·omega
  ·split
   ·omega
   ·have hq : 0 < b - a := by omega
    have h1 : 0 ≤ x - a ∧ x - a ≤ b - a := by omega
    have h2 : -(2 * m) ≤ d - c ∧ d - c ≤ 2 * m := by omega
    have hm : 0 ≤ 2 * m := by omega
    have h3 : (x - a) * (d - c) ≤ (2 * m) * (b - a) := by
     have e1 : (x - a) * (d - c) ≤ (x - a) * (2 * m) := Int.mul_le_mul_of_nonneg_left h2.2 h1.1
     have e2 : (x - a) * (2 * m) ≤ (b - a) * (2 * m) := Int.mul_le_mul_of_nonneg_right h1.2 hm
     rw [Int.mul_comm (2 * m)]
     omega
    have h4 : -(2 * m) * (b - a) ≤ (x - a) * (d - c) := by
     have e1 : (x - a) * (-(2 * m)) ≤ (x - a) * (d - c) := Int.mul_le_mul_of_nonneg_left h2.1 h1.1
     have e2 : (x - a) * (2 * m) ≤ (b - a) * (2 * m) := Int.mul_le_mul_of_nonneg_right h1.2 hm
     rw [Int.mul_neg] at e1
     rw [Int.neg_mul, Int.mul_comm (2 * m)]
     omega
    have h5 := divR_le' hq h3
    have h6 := divR_ge hq h4
    omega
theorem bt_bnd {x a b c d m : Int} (hc : -m ≤ c ∧ c ≤ m) (hd : -m ≤ d ∧ d ≤ m) : -(3 * m) ≤ bt x a b c d ∧ bt x a b c d ≤ 3 * m := by
 unfold bt
 split
 ·exact bt0_bnd hd hc
 ·exact bt0_bnd hc hd
def ptN (p : TPt) : Prop := (-786432 ≤ p.fX ∧ p.fX ≤ 786432) ∧ -786432 ≤ p.fY ∧ p.fY ≤ 786432
theorem atB_bnd {bs : List TPt} (h : ∀ p ∈ bs, pntB p = true) (n : Nat) : pntB (atB bs n) = true := by
 unfold atB
 cases hq : bs[n]? with
 | none => rfl
 | some p => exact h p (List.mem_of_getElem? hq)
theorem mv1_bnd {ks : List TKnot} {b : Nat} {fs : List Int} {bs : List TPt} (h : ∀ p ∈ bs, pntB p = true) (i : Nat) : ptN (mv1 ks b fs bs i) := by
 unfold mv1
 split
 ·exact ⟨⟨by decide, by decide⟩, by decide, by decide⟩
 ·split
  ·have := pnt_in (atB_bnd h (cl fs ((b + i : Nat) : Int)))
   exact ⟨⟨by omega, by omega⟩, by omega, by omega⟩
  ·have h1 := pnt_in (atB_bnd h ((cl fs ((b + i : Nat) : Int) + fs.length - 1) % fs.length))
   have h2 := pnt_in (atB_bnd h (cl fs ((b + i : Nat) : Int) % fs.length))
   exact ⟨bt_bnd (m := 262144) ⟨h1.1, h1.2.1⟩ ⟨h2.1, h2.2.1⟩, bt_bnd (m := 262144) ⟨h1.2.2.1, h1.2.2.2⟩ ⟨h2.2.2.1, h2.2.2.2⟩⟩
theorem inL_bnd {ns : List Int} {ms : List TPt} (h : ∀ p ∈ ms, pntB p = true) : ∀ (b : Nat) (ls : List TLoop), ∀ p ∈ inL ns ms b ls, ptN p
 | _, [], p, hp => by simp [inL] at hp
 | b, l :: t, p, hp => by
  rw [inL, List.mem_append] at hp
  rcases hp with hp | hp
  ·unfold rsL at hp
   obtain ⟨i, _, rfl⟩ := List.mem_map.1 hp
   exact mv1_bnd (fun q hq => h q (by unfold slF at hq; exact List.mem_of_mem_drop (List.mem_of_mem_take hq))) i
  ·exact inL_bnd h _ t p hp
def adP (f : Int) (s p : TPt) : TPt := ⟨s.fX + f * p.fX, s.fY + f * p.fY⟩
def adS (f : Int) (S M : List TPt) : List TPt := S.zipWith (adP f) M
theorem adS_len {f : Int} {S M : List TPt} (h : S.length = M.length) : (adS f S M).length = S.length := by simp [adS, h]
def adK (f : Int) (S M : List TPt) (j : Nat) : List TPt := (adS f S M).take j ++ S.drop j
theorem adK_zero (f : Int) (S M : List TPt) : adK f S M 0 = S := by simp [adK]
theorem adK_all {f : Int} {S M : List TPt} (h : S.length = M.length) : adK f S M S.length = adS f S M := by
 unfold adK
 rw [List.drop_length, List.append_nil, List.take_of_length_le (by rw [adS_len h]; exact Nat.le_refl _)]
theorem adK_len {f : Int} {S M : List TPt} (h : S.length = M.length) (j : Nat) : (adK f S M j).length = S.length := by
 unfold adK
 rw [List.length_append, List.length_take, List.length_drop, adS_len h]; omega
theorem adK_at {f : Int} {S M : List TPt} (h : S.length = M.length) {j : Nat} {s : TPt} (hs : S[j]? = some s) : (adK f S M j)[j]? = some s := by
 have hj := (List.getElem?_eq_some_iff.1 hs).1
 unfold adK
 rw [List.getElem?_append_right (by rw [List.length_take, adS_len h]; omega), List.length_take, adS_len h, List.getElem?_drop]
 rw [show j + (j - min j S.length) = j by omega]
 exact hs
theorem adK_set {f : Int} {S M : List TPt} (h : S.length = M.length) {j : Nat} {s p : TPt} (hs : S[j]? = some s) (hp : M[j]? = some p) : (adK f S M j).set j (adP f s p) = adK f S M (j + 1) := by
 have hj := (List.getElem?_eq_some_iff.1 hs).1
 have ha : (adS f S M)[j]? = some (adP f s p) := by unfold adS; rw [List.getElem?_zipWith, hs, hp]
 unfold adK
 rw [take_snoc_get ha, List.append_assoc]
 have hl : ((adS f S M).take j).length = j := by rw [List.length_take, adS_len h]; omega
 rw [List.set_append, if_neg (by omega), hl, Nat.sub_self, drop_at hs]
 rfl
def bdS (c : Nat) (S : List TPt) : Prop := ∀ s ∈ S, (-(12884901888 * (c : Int)) ≤ s.fX ∧ s.fX ≤ 12884901888 * (c : Int)) ∧ -(12884901888 * (c : Int)) ≤ s.fY ∧ s.fY ≤ 12884901888 * (c : Int)
theorem mulN {f x m : Int} (h1 : 0 ≤ f) (h2 : f ≤ 16384) (h3 : -m ≤ x) (h4 : x ≤ m) : -(16384 * m) ≤ f * x ∧ f * x ≤ 16384 * m := by
 have hm : 0 ≤ m := by omega
 have e1 : f * x ≤ f * m := Int.mul_le_mul_of_nonneg_left h4 h1
 have e2 : f * m ≤ 16384 * m := Int.mul_le_mul_of_nonneg_right h2 hm
 have e3 : f * (-m) ≤ f * x := Int.mul_le_mul_of_nonneg_left h3 h1
 rw [Int.mul_neg] at e3
 omega
theorem adP_bnd {f : Int} {p : TPt} (h1 : 0 ≤ f) (h2 : f ≤ 16384) (h : ptN p) : (-12884901888 ≤ f * p.fX ∧ f * p.fX ≤ 12884901888) ∧ -12884901888 ≤ f * p.fY ∧ f * p.fY ≤ 12884901888 :=
 ⟨mulN (m := 786432) h1 h2 h.1.1 h.1.2, mulN (m := 786432) h1 h2 h.2.1 h.2.2⟩
theorem bdS_mono {c c' : Nat} {S : List TPt} (h : c ≤ c') (H : bdS c S) : bdS c' S := fun s hs => by
 have := H s hs
 have hc : (c : Int) ≤ (c' : Int) := by omega
 omega
theorem bdS_ad {c : Nat} {f : Int} {S M : List TPt} (h1 : 0 ≤ f) (h2 : f ≤ 16384) (hM : ∀ p ∈ M, ptN p) (H : bdS c S) : bdS (c + 1) (adS f S M) := fun q hq => by
 unfold adS at hq
 obtain ⟨i, hi⟩ := List.mem_iff_getElem?.1 hq
 rw [List.getElem?_zipWith] at hi
 cases hs : S[i]? with
 | none => rw [hs] at hi; simp at hi
 | some s =>
  cases hp : M[i]? with
  | none => rw [hs, hp] at hi; simp at hi
  | some p =>
   rw [hs, hp] at hi
   simp only [Option.some.injEq] at hi
   subst hi
   have b1 := H s (List.mem_of_getElem? hs)
   have b2 := adP_bnd h1 h2 (hM p (List.mem_of_getElem? hp))
   unfold adP
   dsimp only
   omega
theorem bdS_zero (n : Nat) : bdS 0 (List.replicate n pt0) := fun s hs => by
 rw [List.eq_of_mem_replicate hs]
 exact ⟨⟨by decide, by decide⟩, by decide, by decide⟩
abbrev SA : Type := List TPt × Int
def dlF (f : Int) (ls : List TLoop) (d : TGlyphDelta) (p : SA) : SA := (adS f p.1 (inL d.fKnots d.fMoves 0 ls), p.2 + f * d.fAdvance)
def dsF (f g : Int) (ls : List TLoop) : List TGlyphDelta → SA → SA
 | [], p => p
 | d :: t, p => dsF f g ls t (if d.fGlyph = g then dlF f ls d p else p)
def maF (ns : List Int) (m : TMaster) : Int := mfK m.fPeaks ns m.fPeaks.length
def msF (ns : List Int) (g : Int) (ls : List TLoop) : List TMaster → SA → SA
 | [], p => p
 | m :: t, p => msF ns g ls t (dsF (maF ns m) g ls m.fDeltas p)
theorem dsF_none {f g : Int} {ls : List TLoop} : ∀ {ds : List TGlyphDelta} {p : SA}, (∀ d ∈ ds, d.fGlyph ≠ g) → dsF f g ls ds p = p
 | [], p, _ => rfl
 | d :: t, p, h => by
  rw [dsF, if_neg (h d (by simp)), dsF_none (fun x hx => h x (by simp [hx]))]
theorem dsG_gt : ∀ {ds : List TGlyphDelta} {o : TGlyphDelta}, dsG (some o) ds = true → ∀ d ∈ ds, o.fGlyph < d.fGlyph
 | [], _, _, d, hd => by simp at hd
 | x :: t, o, h, d, hd => by
  simp only [dsG, ltG, Bool.and_eq_true, decide_eq_true_eq] at h
  rcases List.mem_cons.1 hd with rfl | hd
  ·exact h.2.1
  ·have := dsG_gt h.2.2 d hd; omega
theorem dsF_fdx {f g : Int} {ls : List TLoop} : ∀ {ds : List TGlyphDelta} {o : Option TGlyphDelta} {p : SA} (k : Nat), dsG o ds = true →
  (fdx (fun d => d.fGlyph == g) ds k = -1 ∧ dsF f g ls ds p = p) ∨ ∃ i d, fdx (fun d => d.fGlyph == g) ds k = ((k + i : Nat) : Int) ∧ ds[i]? = some d ∧ d.fGlyph = g ∧ dsF f g ls ds p = dlF f ls d p
 | [], _, p, k, _ => .inl ⟨rfl, rfl⟩
 | x :: t, o, p, k, h => by
  have h0 := h
  simp only [dsG, Bool.and_eq_true] at h
  by_cases hx : x.fGlyph = g
  ·refine .inr ⟨0, x, ?_, rfl, hx, ?_⟩
   ·rw [fdx, if_pos (by simpa using hx)]; rfl
   ·rw [dsF, if_pos hx, dsF_none (fun d hd => ?_)]
    have := dsG_gt h.2.2 d hd; omega
  ·rw [fdx, if_neg (by simpa using hx), dsF, if_neg hx]
   rcases dsF_fdx (f := f) (g := g) (ls := ls) (p := p) (k + 1) h.2.2 with h1 | ⟨i, d, h1, h2, h3, h4⟩
   ·exact .inl h1
   ·refine .inr ⟨i + 1, d, ?_, by simpa using h2, h3, h4⟩
    rw [h1]; congr 1; omega
theorem msF_at {ns : List Int} {g : Int} {ls : List TLoop} {xs : List TMaster} {k : Nat} {m : TMaster} (hm : xs[k]? = some m) (p : SA) : msF ns g ls (xs.drop k) p = msF ns g ls (xs.drop (k + 1)) (dsF (maF ns m) g ls m.fDeltas p) := by
 rw [drop_at hm, msF]
def mvK (S : List TPt) (a : Nat) (k : TKnot) : TKnot := ⟨⟨k.fAt.fX + divR (atB S a).fX 16384, k.fAt.fY + divR (atB S a).fY 16384⟩, k.fOn⟩
def vgK (S : List TPt) : Nat → List TKnot → List TKnot
 | _, [] => []
 | a, k :: t => mvK S a k :: vgK S (a + 1) t
def vgL (S : List TPt) : Nat → List TLoop → List TLoop
 | _, [] => []
 | a, l :: t => ⟨vgK S a l.fKnots⟩ :: vgL S (a + l.fKnots.length) t
theorem vgK_len (S : List TPt) : ∀ (a : Nat) (ks : List TKnot), (vgK S a ks).length = ks.length
 | _, [] => rfl
 | a, k :: t => by simp [vgK, vgK_len S (a + 1) t]
theorem vgL_len (S : List TPt) : ∀ (a : Nat) (ls : List TLoop), (vgL S a ls).length = ls.length
 | _, [] => rfl
 | a, l :: t => by simp [vgL, vgL_len S _ t]
theorem vgK_get (S : List TPt) : ∀ (a : Nat) (ks : List TKnot) (j : Nat) (k : TKnot), ks[j]? = some k → (vgK S a ks)[j]? = some (mvK S (a + j) k)
 | _, [], j, k, h => by simp at h
 | a, x :: t, 0, k, h => by simp at h; subst h; rfl
 | a, x :: t, j + 1, k, h => by
  have := vgK_get S (a + 1) t j k (by simpa using h)
  rw [vgK, List.getElem?_cons_succ, this]
  congr 2; omega
theorem vgL_get (S : List TPt) : ∀ (a : Nat) (ls : List TLoop) (j : Nat) (l : TLoop), ls[j]? = some l → (vgL S a ls)[j]? = some ⟨vgK S (a + cnK (ls.take j)) l.fKnots⟩
 | _, [], j, k, h => by simp at h
 | a, x :: t, 0, k, h => by simp at h; subst h; rfl
 | a, x :: t, j + 1, k, h => by
  have := vgL_get S (a + x.fKnots.length) t j k (by simpa using h)
  rw [vgL, List.getElem?_cons_succ, this, List.take_succ_cons, cnK]
  rw [show a + x.fKnots.length + cnK (t.take j) = a + (x.fKnots.length + cnK (t.take j)) by omega]
def upTo {α : Type} (N O : List α) (j : Nat) : List α := N.take j ++ O.drop j
theorem upTo_zero {α : Type} (N O : List α) : upTo N O 0 = O := by simp [upTo]
theorem upTo_all {α : Type} {N O : List α} (h : N.length = O.length) : upTo N O O.length = N := by
 unfold upTo
 rw [List.drop_length, List.append_nil, List.take_of_length_le (by omega)]
theorem upTo_len {α : Type} {N O : List α} (h : N.length = O.length) (j : Nat) : (upTo N O j).length = O.length := by
 unfold upTo
 rw [List.length_append, List.length_take, List.length_drop]; omega
theorem upTo_at {α : Type} {N O : List α} (h : N.length = O.length) {j : Nat} {o : α} (ho : O[j]? = some o) : (upTo N O j)[j]? = some o := by
 have hj := (List.getElem?_eq_some_iff.1 ho).1
 unfold upTo
 rw [List.getElem?_append_right (by rw [List.length_take]; omega), List.length_take, List.getElem?_drop]
 rw [show j + (j - min j N.length) = j by omega]
 exact ho
theorem upTo_set {α : Type} {N O : List α} (h : N.length = O.length) {j : Nat} {o n : α} (ho : O[j]? = some o) (hn : N[j]? = some n) : (upTo N O j).set j n = upTo N O (j + 1) := by
 have hj := (List.getElem?_eq_some_iff.1 ho).1
 unfold upTo
 rw [take_snoc_get hn, List.append_assoc]
 have hl : (N.take j).length = j := by rw [List.length_take]; omega
 rw [List.set_append, if_neg (by omega), hl, Nat.sub_self, drop_at ho]
 rfl
def vgF (s : TGlyph) (p : SA) : TGlyph := ⟨s.fName, s.fCode, s.fAdvance + divR p.2 16384, ⟨vgL p.1 0 s.fOutline.fLoops⟩, s.fParts, s.fAnchors, s.fHints⟩
def vgS (s : TGlyph) (ms : List TMaster) (g : Int) (ns : List Int) : SA := msF ns g s.fOutline.fLoops ms (List.replicate (cnK s.fOutline.fLoops) pt0, 0)
end Go.Proofs.YtpdeibhedafcfaaGreatDoor