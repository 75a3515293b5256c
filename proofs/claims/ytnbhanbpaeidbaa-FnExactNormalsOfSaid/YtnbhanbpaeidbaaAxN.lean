/- Normal coordinates: plain law and walks (plainNormal, mapNormal, both sides). -/
import Derived.Test.YtnbhanbpaeidbaaAxsV
set_option linter.unusedSimpArgs false
set_option linter.unusedVariables false
namespace Go.Proofs.Ytnbhanbpaeidbaa
open Go.RowKit
theorem axB_facts {a : TAxis} (h : axB a = true) : a.fMin ≤ a.fDefault ∧ a.fDefault ≤ a.fMax ∧ -32000 ≤ a.fMin ∧ a.fMax ≤ 32000 ∧ a.fMin < a.fMax ∧ mapB a.fMap = true := by
  simp only [axB, inB, Bool.and_eq_true, decide_eq_true_eq] at h
  exact ⟨h.1.1.1.2.2, h.1.1.2.1, h.1.1.1.2.1, h.1.1.2.2, h.1.2, h.2⟩
def plainN (a : TAxis) (v : Int) : Int :=
  if a.fDefault < max a.fMin (min a.fMax v) then divR ((max a.fMin (min a.fMax v) - a.fDefault) * 16384) (a.fMax - a.fDefault)
  else if max a.fMin (min a.fMax v) < a.fDefault then divR ((max a.fMin (min a.fMax v) - a.fDefault) * 16384) (a.fDefault - a.fMin) else 0
theorem divR_le {n d c : Int} (hd : 0 < d) (h : n ≤ c * d) : divR n d ≤ c := by
  rw [divR_pos hd]
  have a := Int.emod_nonneg n (show d ≠ 0 by omega)
  have b := Int.emod_lt_of_pos n hd
  have e := Int.emod_add_mul_ediv n d
  have h1 : n / d ≤ c := by
    have := Int.ediv_le_ediv hd h
    rwa [Int.mul_ediv_cancel c (by omega)] at this
  split
  · rcases Int.lt_or_eq_of_le h1 with h2 | h2
    · omega
    · exfalso
      rw [h2, Int.mul_comm] at e
      omega
  · exact h1
theorem le_divR {n d c : Int} (hd : 0 < d) (h : c * d ≤ n) : c ≤ divR n d := by
  rw [divR_pos hd]
  have h1 : c ≤ n / d := (Int.le_ediv_iff_mul_le hd).2 h
  split <;> omega
theorem plainN_nrm {a : TAxis} (h : axB a = true) (v : Int) : nrm (plainN a v) = true := by
  obtain ⟨h1, h2, h3, h4, h5, -⟩ := axB_facts h
  simp only [nrm, Bool.and_eq_true, decide_eq_true_eq]
  unfold plainN
  generalize hu : max a.fMin (min a.fMax v) = u
  have hu1 : a.fMin ≤ u := by omega
  have hu2 : u ≤ a.fMax := by omega
  split
  · exact ⟨le_divR (by omega) (by omega), divR_le (by omega) (by omega)⟩
  · split
    · exact ⟨le_divR (by omega) (by omega), divR_le (by omega) (by omega)⟩
    · omega
def mapGo (n : Int) : Option TAxisPoint → List TAxisPoint → Int
  | _, [] => n
  | none, q :: t => if n = q.fFrom then q.fTo else mapGo n (some q) t
  | some p, q :: t => if n = q.fFrom then q.fTo else if n < q.fFrom then p.fTo + divR ((n - p.fFrom) * (q.fTo - p.fTo)) (q.fFrom - p.fFrom) else mapGo n (some q) t
def mapN (a : TAxis) (n : Int) : Int := mapGo n none a.fMap
theorem mapGo_at (n : Int) {xs : List TAxisPoint} {k : Nat} {q : TAxisPoint} (hq : xs[k]? = some q) :
    mapGo n (pv xs k) (xs.drop k) = if n = q.fFrom then q.fTo else match pv xs k with
      | none => mapGo n (pv xs (k + 1)) (xs.drop (k + 1))
      | some p => if n < q.fFrom then p.fTo + divR ((n - p.fFrom) * (q.fTo - p.fTo)) (q.fFrom - p.fFrom) else mapGo n (pv xs (k + 1)) (xs.drop (k + 1)) := by
  rw [drop_at hq, pv_succ, hq]
  cases pv xs k <;> rfl
theorem mapGo_end (n : Int) {xs : List TAxisPoint} {k : Nat} (o : Option TAxisPoint) (hk : xs.length ≤ k) : mapGo n o (xs.drop k) = n := by
  rw [List.drop_eq_nil_of_le hk]
  cases o <;> rfl
theorem mp_ap : ∀ (xs : List TAxisPoint) (o : Option TAxisPoint), mpGo o xs = true → ∀ (k : Nat) (q : TAxisPoint), xs[k]? = some q → apB q = true
  | [], _, _, k, q, h => by simp at h
  | x :: t, o, h, k, q, hq => by
    rw [mpGo_cons] at h
    simp only [Bool.and_eq_true] at h
    cases k with
    | zero => simp at hq; rw [← hq]; exact h.1.1
    | succ k => exact mp_ap t (some x) h.2 k q (by simpa using hq)
theorem mp_lt : ∀ (xs : List TAxisPoint) (o : Option TAxisPoint), mpGo o xs = true → ∀ (k : Nat) (p q : TAxisPoint), xs[k]? = some p → xs[k + 1]? = some q → apLt p q = true
  | [], _, _, k, p, q, h, _ => by simp at h
  | x :: t, o, h, k, p, q, hp, hq => by
    rw [mpGo_cons] at h
    simp only [Bool.and_eq_true] at h
    cases k with
    | zero =>
      simp at hp hq
      subst hp
      cases t with
      | nil => simp at hq
      | cons y t =>
        simp at hq
        subst hq
        have := h.2
        rw [mpGo_cons] at this
        simp only [Bool.and_eq_true, ltO] at this
        exact this.1.2
    | succ k => exact mp_lt t (some x) h.2 k p q (by simpa using hp) (by simpa using hq)
theorem mapB_first {xs : List TAxisPoint} {q : TAxisPoint} (h : mapB xs = true) (hq : xs[0]? = some q) : q.fFrom = -16384 := by
  cases xs with
  | nil => simp at hq
  | cons x t =>
    simp at hq
    subst hq
    simp only [mapB, List.isEmpty_cons, Bool.false_or, Bool.and_eq_true, decide_eq_true_eq] at h
    have h1 := mapB_has (x :: t) h.1.1
    rw [decide_eq_true h.1.2] at h1
    have h1 := h1.symm
    simp only [Bool.and_eq_true] at h1
    have h2 := h1.1.1
    rw [← cntN_has] at h2
    have h3 := h.1.1
    rw [mpGo_cons] at h3
    simp only [Bool.and_eq_true, apB, nrm, decide_eq_true_eq] at h3
    have h4 := mpGo_low t x h3.2 (-16384) (by omega)
    rw [cntN, h4] at h2
    split at h2
    · rename_i h5
      simp only [Bool.and_eq_true, beq_iff_eq] at h5
      omega
    · omega
theorem mapB_mp {xs : List TAxisPoint} (h : mapB xs = true) : mpGo none xs = true := by
  cases xs with
  | nil => rfl
  | cons x t =>
    simp only [mapB, List.isEmpty_cons, Bool.false_or, Bool.and_eq_true] at h
    exact h.1.1
/-- what a step between two points of a map stays within -/
theorem step_bnd {x y d : Int} (h1 : 0 ≤ x) (h2 : x ≤ d) (h3 : 0 < d) (h4 : d ≤ 32768) (h5 : 0 ≤ y) (h6 : y ≤ 32768) : 0 ≤ x * y ∧ x * y ≤ 1073741824 ∧ 0 ≤ divR (x * y) d ∧ divR (x * y) d ≤ y := by
  have a : 0 ≤ x * y := Int.mul_nonneg h1 h5
  have b : x * y ≤ d * y := Int.mul_le_mul_of_nonneg_right h2 h5
  have c : d * y ≤ 32768 * y := Int.mul_le_mul_of_nonneg_right h4 h5
  refine ⟨a, by omega, le_divR h3 (by omega), divR_le h3 (by rw [Int.mul_comm y d]; exact b)⟩
theorem specPlain_v (a : TAxis) (v : Int) (hA : axB a = true) : PC Try.prog 60 [.pX a.D, .d (.int .i64 v)] (.d (.int .i64 (plainN a v))) [] := by
  refine pc_intro ttOk (by kernel_rfl) Try.func60 rfl (by kernel_rfl) (by kernel_rfl) (by kernel_rfl) (fun hw => ?_)
  obtain ⟨f1, f2, f3, f4, f5, -⟩ := axB_facts hA
  have hP : plainN a v = if a.fDefault < max a.fMin (min a.fMax v) then divR ((max a.fMin (min a.fMax v) - a.fDefault) * 16384) (a.fMax - a.fDefault)
    else if max a.fMin (min a.fMax v) < a.fDefault then divR ((max a.fMin (min a.fMax v) - a.fDefault) * 16384) (a.fDefault - a.fMin) else 0 := rfl
  generalize hu : max a.fMin (min a.fMax v) = u at *
  have hu1 : a.fMin ≤ u := by omega
  have hu2 : u ≤ a.fMax := by omega
  have c2 := l00Max_v a.fMin (min a.fMax v)
  rw [hu] at c2
  rw [hP]
  (conv => whnf)
  (repeat' (first | (refine stg_ ?_) | (refine cl_ (l00Min_v a.fMax v) ?_) | (refine cl_ (c2) ?_) | (refine cl_ (specDivRound_v _ _) ?_) | (refine br_ (fun hbr => ?_) (fun hbr => ?_))))
  all_goals ((refine RetOK.d rfl rfl ?_; conv => whnf))
  (all_goals (first | rfl | (congr 1; omega) | (simp_all; done) | (simp; omega) | (simp_all; omega) | grind))
theorem plain_v (a : TAxis) (v : Int) (hA : axB a = true) : PC Try.prog 61 [.d a.D, .d (.int .i64 v)] (.d (.int .i64 (plainN a v))) [] := by
  refine pc_intro ttOk (by kernel_rfl) Try.func61 rfl (by kernel_rfl) (by kernel_rfl) (by kernel_rfl) (fun hw => ?_)
  obtain ⟨f1, f2, f3, f4, f5, -⟩ := axB_facts hA
  have hP : plainN a v = if a.fDefault < max a.fMin (min a.fMax v) then divR ((max a.fMin (min a.fMax v) - a.fDefault) * 16384) (a.fMax - a.fDefault)
    else if max a.fMin (min a.fMax v) < a.fDefault then divR ((max a.fMin (min a.fMax v) - a.fDefault) * 16384) (a.fDefault - a.fMin) else 0 := rfl
  have hu : max a.fMin (min a.fMax v) = min (max v a.fMin) a.fMax := by omega
  rw [hu] at hP
  have hu1 : a.fMin ≤ min (max v a.fMin) a.fMax := by omega
  have hu2 : min (max v a.fMin) a.fMax ≤ a.fMax := by omega
  rw [hP]
  (conv => whnf)
  (repeat' (first | (refine stg_ ?_) | (refine cl_ (DivRound_v _ _) ?_) | (refine br_ (fun hbr => ?_) (fun hbr => ?_))))
  all_goals ((refine RetOK.d rfl rfl ?_; conv => whnf))
  (all_goals (first | rfl | (congr 1; omega) | (simp_all; done) | (simp; omega) | (simp_all; omega) | grind))
set_option maxHeartbeats 2000000 in
theorem specMapped_v (a : TAxis) (n : Int) (hA : axB a = true) (hn : nrm n = true) : PC Try.prog 57 [.pX a.D, .d (.int .i64 n)] (.d (.int .i64 (mapN a n))) [] := by
  refine pc_intro ttOk (by kernel_rfl) Try.func57 rfl (by kernel_rfl) (by kernel_rfl) (by kernel_rfl) (fun hw => ?_)
  obtain ⟨f1, f2, f3, f4, f5, f6⟩ := axB_facts hA
  simp only [nrm, Bool.and_eq_true, decide_eq_true_eq] at hn
  have f7 := mapB_mp f6
  have hL : (a.fMap.map TAxisPoint.D).length = a.fMap.length := List.length_map _
  have hm : (a.fMap.map TAxisPoint.D).length ≤ 9223372036854775807 := hw.1.2.2.2.2.1.1
  (conv => whnf)
  refine LoopW.go (α := Nat) (fun k => [(0, .pX a.D), (1, .d (.int .i64 n)), (5, .d (.int .i64 k))]) (fun k => [.gone]) (fun k => k ≤ a.fMap.length ∧ (∀ p, pv a.fMap k = some p → p.fFrom ≤ n) ∧ mapN a n = mapGo n (pv a.fMap k) (a.fMap.drop k)) (fun k => a.fMap.length - k) 0 covT_ ?_ (fun k hk => ?_)
  · exact ⟨by omega, fun p hp => by simp [pv] at hp, rfl⟩
  obtain ⟨hk1, hk3, hk2⟩ := hk
  (conv => whnf)
  (refine br_ (fun h2 => ?_) (fun h2 => ?_) <;> (repeat (refine stg_ ?_)))
  · obtain ⟨q, hq⟩ := at_lt' (xs := a.fMap) (k := k) (by omega)
    rw [mapGo_at n hq] at hk2
    have aq := mp_ap _ _ f7 k q hq
    simp only [apB, nrm, Bool.and_eq_true, decide_eq_true_eq] at aq
    (repeat (refine stg_ ?_))
    (refine br_ (fun h3 => ?_) (fun h3 => ?_) <;> (repeat (refine stg_ ?_)))
    · (refine RetOK.d rfl rfl ?_; conv => whnf)
      rw [hk2, if_pos h3]
    · rw [if_neg h3] at hk2
      rcases Nat.eq_zero_or_pos k with rfl | h0
      · rw [pv_zero] at hk2
        (repeat' (first | (refine stg_ ?_) | fail | (refine br_ (fun hbr => ?_) (fun hbr => ?_))))
        all_goals first | (exfalso; omega) | exact NextW.go (0 + 1) covT_ ⟨by omega, fun p hp => by rw [pv_succ, hq] at hp; cases hp; have := mapB_first f6 hq; omega, by rw [hk2]⟩ (by omega)
      · obtain ⟨p, hp⟩ := at_lt' (xs := a.fMap) (k := k - 1) (by omega)
        have ap := mp_ap _ _ f7 (k - 1) p hp
        simp only [apB, nrm, Bool.and_eq_true, decide_eq_true_eq] at ap
        have lt := mp_lt _ _ f7 (k - 1) p q hp (by rw [show k - 1 + 1 = k by omega]; exact hq)
        simp only [apLt, Bool.and_eq_true, decide_eq_true_eq] at lt
        rw [pv_pos _ h0, hp] at hk2
        have hp' : (a.fMap.map TAxisPoint.D)[((k : Int) - 1).toNat]? = some p.D := by
          have : ((k : Int) - 1).toNat = k - 1 := by omega
          rw [this, List.getElem?_map, hp]; rfl
        by_cases h4 : n < q.fFrom
        · have sb := fun hx => step_bnd (x := n - p.fFrom) (y := q.fTo - p.fTo) (d := q.fFrom - p.fFrom) hx (by omega) (by omega) (by omega) (by omega) (by omega)
          have : 0 ≤ n - p.fFrom := by have := hk3 p (by rw [pv_pos _ h0, hp]); omega
          have sb := sb this
          simp only [if_pos h4] at hk2
          (repeat' (first | (refine stg_ ?_) | (refine IxW.at (by omega) hp' ?_; (conv => whnf)) | (refine cl_ (specDivRound_v _ _) ?_) | (refine br_ (fun hbr => ?_) (fun hbr => ?_))))
          all_goals first | (exfalso; omega) | ((refine RetOK.d rfl rfl ?_; conv => whnf); rw [hk2])
        · simp only [if_neg h4] at hk2
          (repeat' (first | (refine stg_ ?_) | fail | (refine br_ (fun hbr => ?_) (fun hbr => ?_))))
          all_goals first | (exfalso; omega) | exact NextW.go (k + 1) covT_ ⟨by omega, fun p hp => by rw [pv_succ, hq] at hp; cases hp; omega, by rw [hk2]⟩ (by omega)
  · (refine RetOK.d rfl rfl ?_; conv => whnf)
    rw [hk2, mapGo_end n _ (by omega)]
set_option maxHeartbeats 2000000 in
theorem mapNormal_v (a : TAxis) (n : Int) (hA : axB a = true) (hn : nrm n = true) : PC Try.prog 59 [.d a.D, .d (.int .i64 n)] (.d (.int .i64 (mapN a n))) [] := by
  refine pc_intro ttOk (by kernel_rfl) Try.func59 rfl (by kernel_rfl) (by kernel_rfl) (by kernel_rfl) (fun hw => ?_)
  obtain ⟨f1, f2, f3, f4, f5, f6⟩ := axB_facts hA
  simp only [nrm, Bool.and_eq_true, decide_eq_true_eq] at hn
  have f7 := mapB_mp f6
  have hL : (a.fMap.map TAxisPoint.D).length = a.fMap.length := List.length_map _
  have hm : (a.fMap.map TAxisPoint.D).length ≤ 9223372036854775807 := hw.1.2.2.2.2.1.1
  (conv => whnf)
  refine LoopW.go (α := Nat) (fun k => [(1, .d (.int .i64 n)), (2, .pB 1 [] 0), (9, .d (.lst (a.fMap.map TAxisPoint.D))), (10, .d (.int .i64 (a.fMap.map TAxisPoint.D).length)), (11, .d (.int .i64 k))]) (fun k => [.gone, .box (.d a.D)]) (fun k => k ≤ a.fMap.length ∧ (∀ p, pv a.fMap k = some p → p.fFrom ≤ n) ∧ mapN a n = mapGo n (pv a.fMap k) (a.fMap.drop k)) (fun k => a.fMap.length - k) 0 covT_ ?_ (fun k hk => ?_)
  · exact ⟨by omega, fun p hp => by simp [pv] at hp, rfl⟩
  obtain ⟨hk1, hk3, hk2⟩ := hk
  (conv => whnf)
  (refine br_ (fun h2 => ?_) (fun h2 => ?_) <;> (repeat (refine stg_ ?_)))
  · obtain ⟨q, hq⟩ := at_lt' (xs := a.fMap) (k := k) (by omega)
    rw [mapGo_at n hq] at hk2
    have aq := mp_ap _ _ f7 k q hq
    simp only [apB, nrm, Bool.and_eq_true, decide_eq_true_eq] at aq
    (repeat (refine stg_ ?_))
    (refine br_ (fun h3 => ?_) (fun h3 => ?_) <;> (repeat (refine stg_ ?_)))
    · (refine RetOK.d rfl rfl ?_; conv => whnf)
      rw [hk2, if_pos h3]
    · rw [if_neg h3] at hk2
      rcases Nat.eq_zero_or_pos k with rfl | h0
      · rw [pv_zero] at hk2
        have := mapB_first f6 hq
        (refine br_ (fun h4 => ?_) (fun h4 => ?_) <;> (repeat (refine stg_ ?_)))
        · exfalso; omega
        · exact NextW.go (0 + 1) covT_ ⟨by omega, fun p hp => by rw [pv_succ, hq] at hp; cases hp; omega, by rw [hk2]⟩ (by omega)
      · obtain ⟨p, hp⟩ := at_lt' (xs := a.fMap) (k := k - 1) (by omega)
        have ap := mp_ap _ _ f7 (k - 1) p hp
        simp only [apB, nrm, Bool.and_eq_true, decide_eq_true_eq] at ap
        have lt := mp_lt _ _ f7 (k - 1) p q hp (by rw [show k - 1 + 1 = k by omega]; exact hq)
        simp only [apLt, Bool.and_eq_true, decide_eq_true_eq] at lt
        rw [pv_pos _ h0, hp] at hk2
        have hp' : (a.fMap.map TAxisPoint.D)[((k : Int) - 1).toNat]? = some p.D := by
          have : ((k : Int) - 1).toNat = k - 1 := by omega
          rw [this, List.getElem?_map, hp]; rfl
        by_cases h4 : n < q.fFrom
        · have sb := fun hx => step_bnd (x := n - p.fFrom) (y := q.fTo - p.fTo) (d := q.fFrom - p.fFrom) hx (by omega) (by omega) (by omega) (by omega) (by omega)
          have : 0 ≤ n - p.fFrom := by have := hk3 p (by rw [pv_pos _ h0, hp]); omega
          have sb := sb this
          simp only [if_pos h4] at hk2
          (repeat' (first | (refine stg_ ?_) | (refine IxW.at (by omega) hp' ?_; (conv => whnf)) | (refine cl_ (DivRound_v _ _) ?_) | (refine br_ (fun hbr => ?_) (fun hbr => ?_))))
          all_goals first | (exfalso; omega) | ((refine RetOK.d rfl rfl ?_; conv => whnf); rw [hk2])
        · simp only [if_neg h4] at hk2
          (repeat' (first | (refine stg_ ?_) | fail | (refine br_ (fun hbr => ?_) (fun hbr => ?_))))
          all_goals first | (exfalso; omega) | exact NextW.go (k + 1) covT_ ⟨by omega, fun p hp => by rw [pv_succ, hq] at hp; cases hp; omega, by rw [hk2]⟩ (by omega)
  · (refine RetOK.d rfl rfl ?_; conv => whnf)
    rw [hk2, mapGo_end n _ (by omega)]
/-! the functions at the top -/
def cdA (b : Bool) : Int := if b = true then 0 else 1
def plI (a : TAxis) (v : Int) : Int := if axB a = true then plainN a v else 0
def nmI (a : TAxis) (v : Int) : Int := if axB a = true then mapN a (plainN a v) else 0
def mpI (a : TAxis) (n : Int) : Int := if axB a = true then (if nrm n = true then mapN a n else 0) else 0
def mpC (a : TAxis) (n : Int) : Int := if axB a = true then (if nrm n = true then 0 else 2) else 1
theorem specPlainNormal_v (a : TAxis) (v : Int) : PC Try.prog 27 [.d a.D, .d (.int .i64 v)] (.tup [.d (.int .i64 (plI a v)), .d (.int .i64 (cdA (axB a)))]) [] := by
  refine pc_intro ttOk (by kernel_rfl) Try.func27 rfl (by kernel_rfl) (by kernel_rfl) (by kernel_rfl) (fun hw => ?_)
  cases hA : axB a
  · (conv => whnf)
    (repeat' (first | (refine stg_ ?_) | (refine cla_ (l29Axis_v a) ?_) | (refine br_ (fun hbr => ?_) (fun hbr => ?_))))
    all_goals first | (exfalso; simp_all; done) | ((refine RetOK.t rfl ?_; (repeat' ((conv => whnf); (first | done | (refine ⟨_, _, rfl, ⟨rfl, ?_⟩, ?_⟩) | fail))); (all_goals (conv => whnf))); (all_goals simp [plI, cdA, hA]))
  · (conv => whnf)
    (repeat' (first | (refine stg_ ?_) | (refine cla_ (l29Axis_v a) ?_) | (refine cla_ (specPlain_v a v hA) ?_) | (refine br_ (fun hbr => ?_) (fun hbr => ?_))))
    all_goals first | (exfalso; simp_all; done) | ((refine RetOK.t rfl ?_; (repeat' ((conv => whnf); (first | done | (refine ⟨_, _, rfl, ⟨rfl, ?_⟩, ?_⟩) | fail))); (all_goals (conv => whnf))); (all_goals simp [plI, cdA, hA]))
theorem PlainNormal_v (a : TAxis) (v : Int) : PC Try.prog 28 [.d a.D, .d (.int .i64 v)] (.tup [.d (.int .i64 (plI a v)), .d (.int .i64 (cdA (axB a)))]) [] := by
  refine pc_intro ttOk (by kernel_rfl) Try.func28 rfl (by kernel_rfl) (by kernel_rfl) (by kernel_rfl) (fun hw => ?_)
  cases hA : axB a
  · (conv => whnf)
    (repeat' (first | (refine stg_ ?_) | (refine cla_ (ValidAxis_v a) ?_) | (refine br_ (fun hbr => ?_) (fun hbr => ?_))))
    all_goals first | (exfalso; simp_all; done) | ((refine RetOK.t rfl ?_; (repeat' ((conv => whnf); (first | done | (refine ⟨_, _, rfl, ⟨rfl, ?_⟩, ?_⟩) | fail))); (all_goals (conv => whnf))); (all_goals simp [plI, cdA, hA]))
  · (conv => whnf)
    (repeat' (first | (refine stg_ ?_) | (refine cla_ (ValidAxis_v a) ?_) | (refine cla_ (plain_v a v hA) ?_) | (refine br_ (fun hbr => ?_) (fun hbr => ?_))))
    all_goals first | (exfalso; simp_all; done) | ((refine RetOK.t rfl ?_; (repeat' ((conv => whnf); (first | done | (refine ⟨_, _, rfl, ⟨rfl, ?_⟩, ?_⟩) | fail))); (all_goals (conv => whnf))); (all_goals simp [plI, cdA, hA]))
theorem specNormalOf_v (a : TAxis) (v : Int) : PC Try.prog 31 [.d a.D, .d (.int .i64 v)] (.tup [.d (.int .i64 (nmI a v)), .d (.int .i64 (cdA (axB a)))]) [] := by
  refine pc_intro ttOk (by kernel_rfl) Try.func31 rfl (by kernel_rfl) (by kernel_rfl) (by kernel_rfl) (fun hw => ?_)
  cases hA : axB a
  · (conv => whnf)
    (repeat' (first | (refine stg_ ?_) | (refine cla_ (l29Axis_v a) ?_) | (refine br_ (fun hbr => ?_) (fun hbr => ?_))))
    all_goals first | (exfalso; simp_all; done) | ((refine RetOK.t rfl ?_; (repeat' ((conv => whnf); (first | done | (refine ⟨_, _, rfl, ⟨rfl, ?_⟩, ?_⟩) | fail))); (all_goals (conv => whnf))); (all_goals simp [nmI, cdA, hA]))
  · have hO : PC Try.prog 63 [.pX a.D, .d (.int .i64 v)] (.d (.int .i64 (mapN a (plainN a v)))) [] := by
      refine pc_intro ttOk (by kernel_rfl) Try.func63 rfl (by kernel_rfl) (by kernel_rfl) (by kernel_rfl) (fun hw => ?_)
      (conv => whnf)
      (repeat' (first | (refine stg_ ?_) | (refine cla_ (specPlain_v a v hA) ?_) | (refine cla_ (specMapped_v a _ hA (plainN_nrm hA v)) ?_) | (refine br_ (fun hbr => ?_) (fun hbr => ?_))))
      (refine RetOK.d rfl rfl ?_; conv => whnf)
    (conv => whnf)
    (repeat' (first | (refine stg_ ?_) | (refine cla_ (l29Axis_v a) ?_) | (refine cla_ (hO) ?_) | (refine br_ (fun hbr => ?_) (fun hbr => ?_))))
    all_goals first | (exfalso; simp_all; done) | ((refine RetOK.t rfl ?_; (repeat' ((conv => whnf); (first | done | (refine ⟨_, _, rfl, ⟨rfl, ?_⟩, ?_⟩) | fail))); (all_goals (conv => whnf))); (all_goals simp [nmI, cdA, hA]))
theorem NormalOf_v (a : TAxis) (v : Int) : PC Try.prog 32 [.d a.D, .d (.int .i64 v)] (.tup [.d (.int .i64 (nmI a v)), .d (.int .i64 (cdA (axB a)))]) [] := by
  refine pc_intro ttOk (by kernel_rfl) Try.func32 rfl (by kernel_rfl) (by kernel_rfl) (by kernel_rfl) (fun hw => ?_)
  cases hA : axB a
  · (conv => whnf)
    (repeat' (first | (refine stg_ ?_) | (refine cla_ (ValidAxis_v a) ?_) | (refine br_ (fun hbr => ?_) (fun hbr => ?_))))
    all_goals first | (exfalso; simp_all; done) | ((refine RetOK.t rfl ?_; (repeat' ((conv => whnf); (first | done | (refine ⟨_, _, rfl, ⟨rfl, ?_⟩, ?_⟩) | fail))); (all_goals (conv => whnf))); (all_goals simp [nmI, cdA, hA]))
  · (conv => whnf)
    (repeat' (first | (refine stg_ ?_) | (refine cla_ (ValidAxis_v a) ?_) | (refine cla_ (plain_v a v hA) ?_) | (refine cla_ (mapNormal_v a _ hA (plainN_nrm hA v)) ?_) | (refine br_ (fun hbr => ?_) (fun hbr => ?_))))
    all_goals first | (exfalso; simp_all; done) | ((refine RetOK.t rfl ?_; (repeat' ((conv => whnf); (first | done | (refine ⟨_, _, rfl, ⟨rfl, ?_⟩, ?_⟩) | fail))); (all_goals (conv => whnf))); (all_goals simp [nmI, cdA, hA]))
theorem specMapNormal_v (a : TAxis) (n : Int) : PC Try.prog 25 [.d a.D, .d (.int .i64 n)] (.tup [.d (.int .i64 (mpI a n)), .d (.int .i64 (mpC a n))]) [] := by
  refine pc_intro ttOk (by kernel_rfl) Try.func25 rfl (by kernel_rfl) (by kernel_rfl) (by kernel_rfl) (fun hw => ?_)
  cases hA : axB a
  · (conv => whnf)
    (repeat' (first | (refine stg_ ?_) | (refine cla_ (l29Axis_v a) ?_) | (refine br_ (fun hbr => ?_) (fun hbr => ?_))))
    all_goals first | (exfalso; simp_all; done) | ((refine RetOK.t rfl ?_; (repeat' ((conv => whnf); (first | done | (refine ⟨_, _, rfl, ⟨rfl, ?_⟩, ?_⟩) | fail))); (all_goals (conv => whnf))); (all_goals simp [mpI, mpC, hA]))
  · cases hN : nrm n
    · (conv => whnf)
      (repeat' (first | (refine stg_ ?_) | (refine cla_ (l29Axis_v a) ?_) | (refine cla_ (l29Normal_v n) ?_) | (refine br_ (fun hbr => ?_) (fun hbr => ?_))))
      all_goals first | (exfalso; simp_all; done) | ((refine RetOK.t rfl ?_; (repeat' ((conv => whnf); (first | done | (refine ⟨_, _, rfl, ⟨rfl, ?_⟩, ?_⟩) | fail))); (all_goals (conv => whnf))); (all_goals simp [mpI, mpC, hA, hN]))
    · (conv => whnf)
      (repeat' (first | (refine stg_ ?_) | (refine cla_ (l29Axis_v a) ?_) | (refine cla_ (l29Normal_v n) ?_) | (refine cla_ (specMapped_v a n hA hN) ?_) | (refine br_ (fun hbr => ?_) (fun hbr => ?_))))
      all_goals first | (exfalso; simp_all; done) | ((refine RetOK.t rfl ?_; (repeat' ((conv => whnf); (first | done | (refine ⟨_, _, rfl, ⟨rfl, ?_⟩, ?_⟩) | fail))); (all_goals (conv => whnf))); (all_goals simp [mpI, mpC, hA, hN]))
theorem MapNormal_v (a : TAxis) (n : Int) : PC Try.prog 26 [.d a.D, .d (.int .i64 n)] (.tup [.d (.int .i64 (mpI a n)), .d (.int .i64 (mpC a n))]) [] := by
  refine pc_intro ttOk (by kernel_rfl) Try.func26 rfl (by kernel_rfl) (by kernel_rfl) (by kernel_rfl) (fun hw => ?_)
  cases hA : axB a
  · (conv => whnf)
    (repeat' (first | (refine stg_ ?_) | (refine cla_ (ValidAxis_v a) ?_) | (refine br_ (fun hbr => ?_) (fun hbr => ?_))))
    all_goals first | (exfalso; simp_all; done) | ((refine RetOK.t rfl ?_; (repeat' ((conv => whnf); (first | done | (refine ⟨_, _, rfl, ⟨rfl, ?_⟩, ?_⟩) | fail))); (all_goals (conv => whnf))); (all_goals simp [mpI, mpC, hA]))
  · cases hN : nrm n
    · (conv => whnf)
      (repeat' (first | (refine stg_ ?_) | (refine cla_ (ValidAxis_v a) ?_) | (refine cla_ (isNormal_v n) ?_) | (refine br_ (fun hbr => ?_) (fun hbr => ?_))))
      all_goals first | (exfalso; simp_all; done) | ((refine RetOK.t rfl ?_; (repeat' ((conv => whnf); (first | done | (refine ⟨_, _, rfl, ⟨rfl, ?_⟩, ?_⟩) | fail))); (all_goals (conv => whnf))); (all_goals simp [mpI, mpC, hA, hN]))
    · (conv => whnf)
      (repeat' (first | (refine stg_ ?_) | (refine cla_ (ValidAxis_v a) ?_) | (refine cla_ (isNormal_v n) ?_) | (refine cla_ (mapNormal_v a n hA hN) ?_) | (refine br_ (fun hbr => ?_) (fun hbr => ?_))))
      all_goals first | (exfalso; simp_all; done) | ((refine RetOK.t rfl ?_; (repeat' ((conv => whnf); (first | done | (refine ⟨_, _, rfl, ⟨rfl, ?_⟩, ?_⟩) | fail))); (all_goals (conv => whnf))); (all_goals simp [mpI, mpC, hA, hN]))
end Go.Proofs.Ytnbhanbpaeidbaa
