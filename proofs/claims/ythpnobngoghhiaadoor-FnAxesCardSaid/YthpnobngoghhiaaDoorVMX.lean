/- merged: several parts in one text. Leans on no more than they do. -/
import Derived.Test.YthpnobngoghhiaaDoorTT
import Derived.Test.YthpnobngoghhiaaDoorVM5
import Derived.Test.YthpnobngoghhiaaDoorVMK
import Derived.Test.YthpnobngoghhiaaDoorTypes
import Derived.Test.YthpnobngoghhiaaDoorRows
import Derived.Test.YthpnobngoghhiaaDoorVMTac
import Derived.Shelf.Strings.BuilderK
import Derived.Laws.IdiomCopy
import Derived.Deep.RegionLaw
import Derived.Deep.LoopGhost
import Derived.Lib.SliceRun
import Derived.Shelf.RegionOpenPlain
import Derived.WalkKit
import Derived.Lib.Walk
import Derived.Laws.Bits64b
set_option linter.unusedSimpArgs false
set_option linter.unusedVariables false
namespace Go.Proofs.YthpnobngoghhiaaDoor
open Go.RowKit
theorem l00In_v (n lo hi : Int) : PC Tryd.prog 43 [.d (.int .i64 n), .d (.int .i64 lo), .d (.int .i64 hi)] (.d (.bool (inB n lo hi))) [] := by
  refine pc_intro ttOk (by kernel_rfl) Tryd.func43 rfl (by kernel_rfl) (by kernel_rfl) (by kernel_rfl) (fun hw => ?_)
  (conv => whnf)
  (repeat' (first | (refine stg_ ?_) | (split <;> (conv => whnf))))
  (all_goals ((refine RetOK.d rfl rfl ?_; conv => whnf); (simp_all [inB]); (try omega)))
theorem l29Normal_v (n : Int) : PC Tryd.prog 60 [.d (.int .i64 n)] (.d (.bool (nrm n))) [] := by
  refine pc_intro ttOk (by kernel_rfl) Tryd.func60 rfl (by kernel_rfl) (by kernel_rfl) (by kernel_rfl) (fun hw => ?_)
  (conv => whnf)
  (refine cl_ (l00In_v n _ _) ?_)
  (refine RetOK.d rfl rfl ?_; conv => whnf)
  rfl
theorem isNormal_v (n : Int) : PC Tryd.prog 31 [.d (.int .i64 n)] (.d (.bool (nrm n))) [] := by
  refine pc_intro ttOk (by kernel_rfl) Tryd.func31 rfl (by kernel_rfl) (by kernel_rfl) (by kernel_rfl) (fun hw => ?_)
  (conv => whnf)
  (repeat' (first | (refine stg_ ?_) | (split <;> (conv => whnf))))
  (all_goals ((refine RetOK.d rfl rfl ?_; conv => whnf); (simp_all [nrm]); (try omega)))
theorem isSmall_v (c : UInt8) : PC Tryd.prog 61 [.d (.int .u8 c.toNat)] (.d (.bool (smB c))) [] := by
  refine pc_intro ttOk (by kernel_rfl) Tryd.func61 rfl (by kernel_rfl) (by kernel_rfl) (by kernel_rfl) (fun hw => ?_)
  (conv => whnf)
  (repeat' (first | (refine stg_ ?_) | (split <;> (conv => whnf))))
  (all_goals ((refine RetOK.d rfl rfl ?_; conv => whnf); (simp_all [smB]); (try omega)))
theorem isDigit_v (c : UInt8) : PC Tryd.prog 57 [.d (.int .u8 c.toNat)] (.d (.bool (dgB c))) [] := by
  refine pc_intro ttOk (by kernel_rfl) Tryd.func57 rfl (by kernel_rfl) (by kernel_rfl) (by kernel_rfl) (fun hw => ?_)
  (conv => whnf)
  (repeat' (first | (refine stg_ ?_) | (split <;> (conv => whnf))))
  (all_goals ((refine RetOK.d rfl rfl ?_; conv => whnf); (simp_all [dgB]); (try omega)))
theorem l01Small_v (c : UInt8) : PC Tryd.prog 59 [.d (.int .u8 c.toNat)] (.d (.bool (smB c))) [] := by
  refine pc_intro ttOk (by kernel_rfl) Tryd.func59 rfl (by kernel_rfl) (by kernel_rfl) (by kernel_rfl) (fun hw => ?_)
  (conv => whnf)
  (repeat' (first | (refine stg_ ?_) | (split <;> (conv => whnf))))
  (all_goals ((refine RetOK.d rfl rfl ?_; conv => whnf); (simp_all [smB]); (try omega)))
theorem l01Digit_v (c : UInt8) : PC Tryd.prog 51 [.d (.int .u8 c.toNat)] (.d (.bool (dgB c))) [] := by
  refine pc_intro ttOk (by kernel_rfl) Tryd.func51 rfl (by kernel_rfl) (by kernel_rfl) (by kernel_rfl) (fun hw => ?_)
  (conv => whnf)
  (repeat' (first | (refine stg_ ?_) | (split <;> (conv => whnf))))
  (all_goals ((refine RetOK.d rfl rfl ?_; conv => whnf); (simp_all [dgB]); (try omega)))
theorem IsName_v (s : ByteArray) : PC Tryd.prog 45 [.d (.str s)] (.d (.bool (nameB s))) [] := by
  refine pc_intro ttOk (by kernel_rfl) Tryd.func45 rfl (by kernel_rfl) (by kernel_rfl) (by kernel_rfl) (fun hw => ?_)
  have hs : s.size ≤ 9223372036854775807 := hw.1
  by_cases h0 : 0 < s.size
  · have HN := nameB_cons h0
    have hc := bget? h0
    (conv => whnf)
    (split <;> rename_i h1 <;> simp only [decide_eq_true_eq, decide_eq_false_iff_not, Bool.not_eq_true', Bool.not_eq_false', bne_iff_ne, ne_eq, beq_iff_eq, bne_eq_false_iff_eq, beq_eq_false_iff_ne, Decidable.not_not, Nat.not_lt, Nat.not_le, Int.not_lt, Int.not_le, Bool.and_eq_true, Bool.and_eq_false_iff, Bool.or_eq_true, Bool.or_eq_false_iff] at h1 <;> (conv => whnf) <;> (repeat (refine stg_ ?_)))
    · exfalso; omega
    · (split <;> rename_i h2 <;> simp only [decide_eq_true_eq, decide_eq_false_iff_not, Bool.not_eq_true', Bool.not_eq_false', bne_iff_ne, ne_eq, beq_iff_eq, bne_eq_false_iff_eq, beq_eq_false_iff_ne, Decidable.not_not, Nat.not_lt, Nat.not_le, Int.not_lt, Int.not_le, Bool.and_eq_true, Bool.and_eq_false_iff, Bool.or_eq_true, Bool.or_eq_false_iff] at h2 <;> (conv => whnf) <;> (repeat (refine stg_ ?_)))
      · (refine RetOK.d rfl rfl ?_; conv => whnf)
        rw [HN, decide_eq_false (by omega)]; rfl
      · (refine cl_ (isSmall_v _) ?_)
        rw [decide_eq_true (by omega), Bool.true_and] at HN
        (split <;> rename_i h3 <;> simp only [decide_eq_true_eq, decide_eq_false_iff_not, Bool.not_eq_true', Bool.not_eq_false', bne_iff_ne, ne_eq, beq_iff_eq, bne_eq_false_iff_eq, beq_eq_false_iff_ne, Decidable.not_not, Nat.not_lt, Nat.not_le, Int.not_lt, Int.not_le, Bool.and_eq_true, Bool.and_eq_false_iff, Bool.or_eq_true, Bool.or_eq_false_iff] at h3 <;> (conv => whnf) <;> (repeat (refine stg_ ?_)))
        · (refine RetOK.d rfl rfl ?_; conv => whnf)
          rw [HN, h3]; rfl
        · rw [h3, Bool.true_and] at HN
          refine LoopW.go (α := Nat) (fun k => [(0, .d (.str s)), (3, .d (.int .i64 k))]) (fun _ => [.gone]) (fun k => 1 ≤ k ∧ k ≤ s.size ∧ nameB s = (s.data.toList.drop k).all nmC) (fun k => s.size - k) 1 (Weak.cov ⟨rfl, rfl, trivial⟩ ⟨trivial, trivial⟩ rfl) ⟨by omega, by omega, HN⟩ (fun k hk => ?_)
          obtain ⟨hk1, hk2, hk3⟩ := hk
          (conv => whnf)
          clear hc
          (split <;> rename_i h4 <;> simp only [decide_eq_true_eq, decide_eq_false_iff_not, Bool.not_eq_true', Bool.not_eq_false', bne_iff_ne, ne_eq, beq_iff_eq, bne_eq_false_iff_eq, beq_eq_false_iff_ne, Decidable.not_not, Nat.not_lt, Nat.not_le, Int.not_lt, Int.not_le, Bool.and_eq_true, Bool.and_eq_false_iff, Bool.or_eq_true, Bool.or_eq_false_iff] at h4 <;> (conv => whnf) <;> (repeat (refine stg_ ?_)))
          · have h4' : k < s.size := by omega
            have hc := bget? h4'
            rw [dropN h4', List.all_cons] at hk3
            (repeat (refine stg_ ?_))
            (refine cl_ (isSmall_v _) ?_)
            (repeat' (first | (refine stg_ ?_) | ((refine cl_ (isDigit_v _) ?_)) | (split <;> (conv => whnf)))); all_goals (first | (exfalso; simp_all; done) | (refine NextW.go (k + 1) (Weak.cov ⟨rfl, rfl, trivial⟩ ⟨trivial, trivial⟩ rfl) ⟨by omega, by omega, ?_⟩ (by omega); rw [hk3, Bool.and_eq_right_iff_imp]; intro _; simp_all [nmC]; done) | ((refine RetOK.d rfl rfl ?_; conv => whnf); rw [hk3]; simp_all [nmC]; done) | skip)
          · (refine RetOK.d rfl rfl ?_; conv => whnf)
            rw [hk3, List.drop_eq_nil_of_le (by show s.size ≤ k; omega)]; rfl
  · have HN := nameB_nil (s := s) (by omega)
    (conv => whnf)
    (split <;> rename_i h1 <;> simp only [decide_eq_true_eq, decide_eq_false_iff_not, Bool.not_eq_true', Bool.not_eq_false', bne_iff_ne, ne_eq, beq_iff_eq, bne_eq_false_iff_eq, beq_eq_false_iff_ne, Decidable.not_not, Nat.not_lt, Nat.not_le, Int.not_lt, Int.not_le, Bool.and_eq_true, Bool.and_eq_false_iff, Bool.or_eq_true, Bool.or_eq_false_iff] at h1 <;> (conv => whnf) <;> (repeat (refine stg_ ?_)))
    · (refine RetOK.d rfl rfl ?_; conv => whnf)
      rw [HN]
    · exfalso; omega
theorem specIsName_v (s : ByteArray) : PC Tryd.prog 42 [.d (.str s)] (.d (.bool (nameB s))) [] := by
  refine pc_intro ttOk (by kernel_rfl) Tryd.func42 rfl (by kernel_rfl) (by kernel_rfl) (by kernel_rfl) (fun hw => ?_)
  have hs : s.size ≤ 9223372036854775807 := hw.1
  by_cases h0 : 0 < s.size
  · have HN := nameB_cons h0
    have hc := bget? h0
    (conv => whnf)
    (split <;> rename_i h1 <;> simp only [decide_eq_true_eq, decide_eq_false_iff_not, Bool.not_eq_true', Bool.not_eq_false', bne_iff_ne, ne_eq, beq_iff_eq, bne_eq_false_iff_eq, beq_eq_false_iff_ne, Decidable.not_not, Nat.not_lt, Nat.not_le, Int.not_lt, Int.not_le, Bool.and_eq_true, Bool.and_eq_false_iff, Bool.or_eq_true, Bool.or_eq_false_iff] at h1 <;> (conv => whnf) <;> (repeat (refine stg_ ?_)))
    · exfalso; rw [toL_inj h1] at h0; exact absurd h0 (by decide)
    · (split <;> rename_i h2 <;> simp only [decide_eq_true_eq, decide_eq_false_iff_not, Bool.not_eq_true', Bool.not_eq_false', bne_iff_ne, ne_eq, beq_iff_eq, bne_eq_false_iff_eq, beq_eq_false_iff_ne, Decidable.not_not, Nat.not_lt, Nat.not_le, Int.not_lt, Int.not_le, Bool.and_eq_true, Bool.and_eq_false_iff, Bool.or_eq_true, Bool.or_eq_false_iff] at h2 <;> (conv => whnf) <;> (repeat (refine stg_ ?_)))
      · (refine RetOK.d rfl rfl ?_; conv => whnf)
        rw [HN, decide_eq_false (by omega)]; rfl
      · (refine cl_ (l01Small_v _) ?_)
        rw [decide_eq_true (by omega), Bool.true_and] at HN
        (split <;> rename_i h3 <;> simp only [decide_eq_true_eq, decide_eq_false_iff_not, Bool.not_eq_true', Bool.not_eq_false', bne_iff_ne, ne_eq, beq_iff_eq, bne_eq_false_iff_eq, beq_eq_false_iff_ne, Decidable.not_not, Nat.not_lt, Nat.not_le, Int.not_lt, Int.not_le, Bool.and_eq_true, Bool.and_eq_false_iff, Bool.or_eq_true, Bool.or_eq_false_iff] at h3 <;> (conv => whnf) <;> (repeat (refine stg_ ?_)))
        · (refine RetOK.d rfl rfl ?_; conv => whnf)
          rw [HN, h3]; rfl
        · rw [h3, Bool.true_and] at HN
          refine LoopW.go (α := Nat) (fun k => [(0, .d (.str s)), (3, .d (.int .i64 k))]) (fun _ => [.gone]) (fun k => 0 ≤ k ∧ k ≤ s.size ∧ nameB s = (s.data.toList.drop k).all nmC) (fun k => s.size - k) 0 (Weak.cov ⟨rfl, rfl, trivial⟩ ⟨trivial, trivial⟩ rfl) ⟨by omega, by omega, by rw [HN, dropN h0, List.all_cons, smB_nmC h3, Bool.true_and]⟩ (fun k hk => ?_)
          obtain ⟨hk1, hk2, hk3⟩ := hk
          (conv => whnf)
          clear hc
          (split <;> rename_i h4 <;> simp only [decide_eq_true_eq, decide_eq_false_iff_not, Bool.not_eq_true', Bool.not_eq_false', bne_iff_ne, ne_eq, beq_iff_eq, bne_eq_false_iff_eq, beq_eq_false_iff_ne, Decidable.not_not, Nat.not_lt, Nat.not_le, Int.not_lt, Int.not_le, Bool.and_eq_true, Bool.and_eq_false_iff, Bool.or_eq_true, Bool.or_eq_false_iff] at h4 <;> (conv => whnf) <;> (repeat (refine stg_ ?_)))
          · have h4' : k < s.size := by omega
            have hc := bget? h4'
            rw [dropN h4', List.all_cons] at hk3
            (repeat (refine stg_ ?_))
            (refine cl_ (l01Small_v _) ?_)
            (repeat' (first | (refine stg_ ?_) | ((refine cl_ (l01Digit_v _) ?_)) | (split <;> (conv => whnf)))); all_goals (first | (exfalso; simp_all; done) | (refine NextW.go (k + 1) (Weak.cov ⟨rfl, rfl, trivial⟩ ⟨trivial, trivial⟩ rfl) ⟨by omega, by omega, ?_⟩ (by omega); rw [hk3, Bool.and_eq_right_iff_imp]; intro _; simp_all [nmC]; done) | ((refine RetOK.d rfl rfl ?_; conv => whnf); rw [hk3]; simp_all [nmC]; done) | skip)
          · (refine RetOK.d rfl rfl ?_; conv => whnf)
            rw [hk3, List.drop_eq_nil_of_le (by show s.size ≤ k; omega)]; rfl
  · have HN := nameB_nil (s := s) (by omega)
    (conv => whnf)
    (split <;> rename_i h1 <;> simp only [decide_eq_true_eq, decide_eq_false_iff_not, Bool.not_eq_true', Bool.not_eq_false', bne_iff_ne, ne_eq, beq_iff_eq, bne_eq_false_iff_eq, beq_eq_false_iff_ne, Decidable.not_not, Nat.not_lt, Nat.not_le, Int.not_lt, Int.not_le, Bool.and_eq_true, Bool.and_eq_false_iff, Bool.or_eq_true, Bool.or_eq_false_iff] at h1 <;> (conv => whnf) <;> (repeat (refine stg_ ?_)))
    · (refine RetOK.d rfl rfl ?_; conv => whnf)
      rw [HN]
    · exfalso; exact h1 (congrArg ByteArray.toList (ByteArray.ext (Array.eq_empty_of_size_eq_zero (by show s.size = 0; omega))))
theorem floorDiv_v (n d : Int) (h0 : 0 < d) : PC Tryd.prog 63 [.d (.int .i64 n), .d (.int .i64 d)] (.d (.int .i64 (n / d))) [] := by
  refine pc_intro ttOk (by kernel_rfl) Tryd.func63 rfl (by kernel_rfl) (by kernel_rfl) (by kernel_rfl) (fun hw => ?_)
  have hn1 : -9223372036854775808 ≤ n ∧ n ≤ 9223372036854775807 := hw.1
  have hd1 : -9223372036854775808 ≤ d ∧ d ≤ 9223372036854775807 := hw.2.1
  obtain ⟨n1, n2⟩ := hn1
  obtain ⟨d1, d2⟩ := hd1
  obtain ⟨f1, f2, f3, f4, f5⟩ := div_facts h0 n1 n2
  have ht := tdiv_facts (n := n) h0
  have hq : -9223372036854775808 ≤ n.tdiv d ∧ n.tdiv d ≤ 9223372036854775807 := by
    by_cases hm : n.tmod d < 0
    · have := ht.1 hm; have := f5 this.2.2.2; omega
    · have := ht.2 (by omega); omega
  by_cases hm : n.tmod d < 0
  · obtain ⟨t1, t2, t3, t4⟩ := ht.1 hm
    have f5 := f5 t4
    clear ht
    (conv => whnf)
    (repeat' (first | (refine stg_ ?_) | (split <;> (conv => whnf))))
    all_goals first | (exfalso; simp_all; done) | (exfalso; simp_all; omega) | ((refine RetOK.d rfl rfl ?_; conv => whnf); congr 1; omega)
  · obtain ⟨t1, t2⟩ := ht.2 (by omega)
    clear ht f5
    (conv => whnf)
    (repeat' (first | (refine stg_ ?_) | (split <;> (conv => whnf))))
    all_goals first | (exfalso; simp_all; done) | (exfalso; simp_all; omega) | ((refine RetOK.d rfl rfl ?_; conv => whnf); congr 1; omega)
theorem DivRound_v (n d : Int) : PC Tryd.prog 47 [.d (.int .i64 n), .d (.int .i64 d)] (.d (.int .i64 (divR n d))) [] := by
  refine pc_intro ttOk (by kernel_rfl) Tryd.func47 rfl (by kernel_rfl) (by kernel_rfl) (by kernel_rfl) (fun hw => ?_)
  have hn1 : -9223372036854775808 ≤ n ∧ n ≤ 9223372036854775807 := hw.1
  have hd1 : -9223372036854775808 ≤ d ∧ d ≤ 9223372036854775807 := hw.2.1
  obtain ⟨n1, n2⟩ := hn1
  obtain ⟨d1, d2⟩ := hd1
  (conv => whnf)
  (split <;> rename_i h1 <;> simp only [decide_eq_true_eq, decide_eq_false_iff_not, Bool.not_eq_true', Bool.not_eq_false', bne_iff_ne, ne_eq, beq_iff_eq, bne_eq_false_iff_eq, beq_eq_false_iff_ne, Decidable.not_not, Nat.not_lt, Nat.not_le, Int.not_lt, Int.not_le, Bool.and_eq_true, Bool.and_eq_false_iff, Bool.or_eq_true, Bool.or_eq_false_iff] at h1 <;> (conv => whnf) <;> (repeat (refine stg_ ?_)))
  · (refine RetOK.d rfl rfl ?_; conv => whnf)
    rw [divR, if_pos h1]
  · obtain ⟨f1, f2, f3, f4, f5⟩ := div_facts h1 n1 n2
    have hR := divR_pos (n := n) h1
    have hm := Int.emod_add_mul_ediv n d
    rw [Int.mul_comm] at hm
    have hw' := wrap_rem h1 d2 n1 n2
    (refine cl_ (floorDiv_v n d h1) ?_)
    refine ⟨_, rfl, ?_⟩
    (conv => whnf)
    refine ⟨n % d, hw', ?_⟩
    (conv => whnf)
    (repeat (refine stg_ ?_))
    have f6 : n % d < d - n % d ∨ (-4611686018427387904 ≤ n / d ∧ n / d ≤ 4611686018427387903) := by
      by_cases hh : 2 ≤ d
      · exact Or.inr (f5 hh)
      · left; omega
    (refine br_ (fun h2 => ?_) (fun h2 => ?_) <;> (repeat (refine stg_ ?_)))
    · (refine RetOK.d rfl rfl ?_; conv => whnf)
      rw [hR, if_pos (by omega)]
    · (refine RetOK.d rfl rfl ?_; conv => whnf)
      rw [hR, if_neg (by omega)]
open Go.RowKit Go.ChangeShapes Go.WideShapes
def RdD (P : Program) (T : TypeId) (n : Nat) (p : D → Prop) : Prop :=
  P.cellsOf T = n ∧ ∀ (H : Type) (enc : TypeId × Value → H) (w : World) (fuel : Nat) (cs : List Value) (x : DataW H × List MemPlace),
    DataW.trod enc P w 0 (fun _ => true) true fuel T cs = some x → ∃ d, p d ∧ d.size = n ∧ repD [] w d cs
theorem inR_wf {k : IntKind} {n : Int} (h : (Lit.int k n).wf = true) : inR k n := by
  have h' : (decide (k.min ≤ n) && decide (n ≤ k.max)) = true := h
  simp only [Bool.and_eq_true, decide_eq_true_eq] at h'
  exact h'
section
variable {P : Program} {T : TypeId}
theorem rd2_imp {n : Nat} {p q : D → Prop} (h : RdD P T n p) (hq : ∀ d, p d → q d) : RdD P T n q :=
  ⟨h.1, fun H enc w fuel cs x ht => by
    obtain ⟨d, h1, h2⟩ := h.2 H enc w fuel cs x ht
    exact ⟨d, hq d h1, h2⟩⟩
theorem rd2_slice {E : TypeId} {n : Nat} {p : D → Prop} (hT : P.underlying T = some (.slice E)) (hc : P.cellsOf T = 1) (hn : 0 < n) (hE : RdD P E n p) : RdD P T 1 fun d => ∃ xs : List D, d = .lst xs ∧ ∀ x ∈ xs, p x :=
  ⟨hc, fun H enc w fuel cs x h => by
    rcases Deep.open_slice hT h with ⟨rfl, _⟩ | ⟨a, len, cap, m, k, Dd, Pl, rfl, _, hl, hm, hmm, _, hel⟩
    · exact ⟨.lst [], ⟨[], rfl, by simp⟩, rfl, none, 0, 0, rfl, Nat.le_refl _, Nat.zero_le _, fun _ => rfl, trivial⟩
    · simp only [if_true] at hmm
      obtain rfl := hmm.symm
      obtain ⟨xs, hxl, hxs⟩ := exists_list (n := len) (p := fun i (x : D) => p x ∧ ∃ b o cs, a = ⟨b, o, none⟩ ∧ b < w.heap.size ∧ CellsAt w b (o + i * n) cs ∧ x.size = n ∧ repD [] w x cs) (fun i hi => by
        obtain ⟨cs', h1, h2⟩ := hel i (by omega)
        obtain ⟨y, hy1, hy2, hy3⟩ := hE.2 _ _ _ _ _ _ h2
        obtain ⟨_, hcl, hat⟩ := World.cells?_some h1
        rw [hE.1] at hcl hat
        have h0 := hat 0 hn
        rw [List.getElem?_eq_getElem (by omega)] at h0
        have hsp := cell_spot h0
        have haa : a = ⟨a.block, a.off, none⟩ := by
          obtain ⟨cs0, h10, h20⟩ := hel 0 (by omega)
          obtain ⟨_, hcl0, hat0⟩ := World.cells?_some h10
          rw [hE.1] at hcl0 hat0
          have h00 := hat0 0 hn
          rw [List.getElem?_eq_getElem (by omega)] at h00
          simpa [Addr.add] using cell_spot h00
        have hcells : CellsAt w a.block (a.off + i * n) cs' := fun j v hj => by
          have hjl : j < cs'.length := (List.getElem?_eq_some_iff.1 hj).1
          have := hat j (by omega)
          rw [hj] at this
          rw [addr_add, haa, addr_add_plain] at this
          simpa [Nat.add_assoc] using this
        refine ⟨y, hy1, a.block, a.off, cs', haa, ?_, hcells, hy2, hy3⟩
        have h1 := hcells 0 cs'[0] (List.getElem?_eq_getElem (by omega))
        have h2 := World.block_lt_of_cell? (w := w) (a := ⟨a.block, a.off + i * n + 0, none⟩) h1
        exact h2)
      refine ⟨.lst xs, ⟨xs, rfl, fun y hy => ?_⟩, rfl, some a, cap, n, by rw [hxl], by omega, hm, (fun h => by cases h), (repDe_get xs 0).2 fun i x hx => ?_⟩
      · obtain ⟨i, hi⟩ := List.getElem?_of_mem hy
        exact (hxs i y hi).1
      · obtain ⟨_, b, o, cs, e, h1, h2, h3, h4⟩ := hxs i x hx
        exact ⟨b, o, cs, by rw [e], by simp, h1, by rw [Nat.zero_add]; exact h2, h3, h4⟩⟩
structure FRd where
  t : TypeId
  n : Nat
  p : D → Prop
end
def ArgRd (P : Program) (T : TypeId) (p : D → Prop) : Prop :=
  ∀ (H : Type) (enc : TypeId × Value → H) (w : World) (base : Nat) (v : Value) (d : DataW H) (pl : List MemPlace), Value.okWide P w .any base T v → DataW.Trod enc P w 0 (fun _ => true) true T v d pl →
    ∃ y, p y ∧ rep1 w [none] [.gone] (.d y) v
section
variable {P : Program} {T : TypeId} {n : Nat} {p : D → Prop}
theorem arg_cell (hR : RdD P T n p) (ha : ∀ y, p y → y.agg = false) (hv : ∀ (w : World) base v, Value.okWide P w .any base T v → v.cells.toList = [v]) : ArgRd P T p := fun H enc w base v d pl hok ht => by
  obtain ⟨fuel, hf⟩ := ht
  obtain ⟨y, h1, _, h2⟩ := hR.2 _ _ _ _ _ _ hf
  refine ⟨y, h1, ?_⟩
  rw [hv w base v hok] at h2
  unfold rep1
  rw [if_neg (by show ¬ (y.agg = true); rw [ha y h1]; simp)]
  exact h2
theorem arg_sl {E : TypeId} (hT : P.underlying T = some (.slice E)) (hR : RdD P T n p) (ha : ∀ y, p y → y.agg = false) : ArgRd P T p := arg_cell hR ha fun w base v h => by
  obtain ⟨a, l, c, rfl⟩ := okWide_slice hT h
  rfl
end
def args2 : List (D → Prop) → List D → Prop
  | [], ds => ds = []
  | p :: ps, ds => ∃ d ds', ds = d :: ds' ∧ p d ∧ args2 ps ds'
def argRds (P : Program) : List TypeId → List (D → Prop) → Prop
  | [], ps => ps = []
  | t :: ts, ps => ∃ p ps', ps = p :: ps' ∧ ArgRd P t p ∧ argRds P ts ps'
theorem law_of_pc {P : Program} {f : FuncId} {ts : List TypeId} {ps : List (D → Prop)} (hR : argRds P ts ps) (hpc : ∀ ds, args2 ps ds → PC P f (toVs ds) (.d (.bool true)) []) : LawCalls P f ts := by
  intro H enc W base args ds p hval hA
  have key : ∀ (ts : List TypeId) (ps : List (D → Prop)) (args : List Value) (ds : List (DataW H)) (pl : List MemPlace), argRds P ts ps → (∀ (j : Nat) t v, ts[j]? = some t → args[j]? = some v → Value.okWide P W .any base t v) →
      DataW.TrodAll enc P W 0 (fun _ => true) true ts args ds pl → ∃ ys, args2 ps ys ∧ repT W [none] [.gone] (toVs ys) args := by
    intro ts
    induction ts with
    | nil =>
      intro ps args ds pl hr _ hA
      obtain ⟨rfl, rfl, rfl⟩ := trodAll_nil hA
      cases hr
      exact ⟨[], rfl, rfl⟩
    | cons t ts ih =>
      intro ps args ds pl hr hv hA
      obtain ⟨v, vs, d, ds', p1, q1, rfl, rfl, rfl, h, r⟩ := ChangeShapes.trodAll_cons hA
      obtain ⟨p, ps', rfl, h1, h2⟩ := hr
      obtain ⟨y, y1, y2⟩ := h1 H enc W base v d p1 (hv 0 _ _ rfl rfl) h
      obtain ⟨ys, k1, k2⟩ := ih ps' vs ds' q1 h2 (fun j t v ht hv' => hv (j + 1) t v (by simpa using ht) (by simpa using hv')) r
      exact ⟨y :: ys, ⟨y, ys, rfl, y1, k1⟩, ⟨v, vs, rfl, y2, k2⟩⟩
  obtain ⟨ys, k1, k2⟩ := key ts ps args ds p hR hval hA
  refine ((hpc ys k1).run W [] args (by simp) (by simp) k2).mono ?_
  rintro e w' ⟨cv, M', rfl, hx, _, hr⟩
  exact ⟨by rw [rep_bool.1 hr], hx⟩
abbrev lstD {α : Type} (f : α → D) (xs : List α) : D := .lst (xs.map f)
def TPeak.D (x : TPeak) : D := .st [.int .i64 x.fStart, .int .i64 x.fTop, .int .i64 x.fEnd]
def TCharRange.D (x : TCharRange) : D := .st [.int .i64 x.fFrom, .int .i64 x.fCount, .int .i64 x.fGlyph]
def TSlot.D (x : TSlot) : D := .st [.int .i64 x.fGlyph, .int .i64 x.fX, .int .i64 x.fY, .int .i64 x.fAdvance, .int .i64 x.fFrom, .int .i64 x.fLen]
def TTable.D (x : TTable) : D := .st [.str x.fTag, .str x.fData]
def TAxisPoint.D (x : TAxisPoint) : D := .st [.int .i64 x.fFrom, .int .i64 x.fTo]
def TAxis.D (x : TAxis) : D := .st [.str x.fName, .int .i64 x.fMin, .int .i64 x.fDefault, .int .i64 x.fMax, .lst (x.fMap.map TAxisPoint.D)]
def TPt.D (x : TPt) : D := .st [.int .i64 x.fX, .int .i64 x.fY]
def TGlyphDelta.D (x : TGlyphDelta) : D := .st [.int .i64 x.fGlyph, .lst (x.fKnots.map (D.int .i64)), .lst (x.fMoves.map TPt.D), .int .i64 x.fAdvance]
def TMaster.D (x : TMaster) : D := .st [.lst (x.fPeaks.map TPeak.D), .lst (x.fDeltas.map TGlyphDelta.D)]
def TVariation.D (x : TVariation) : D := .st [.lst (x.fAxes.map TAxis.D), .lst (x.fMasters.map TMaster.D)]
def TKnot.D (x : TKnot) : D := .st [x.fAt.D, .bool x.fOn]
def TLoop.D (x : TLoop) : D := .st [.lst (x.fKnots.map TKnot.D)]
def TOutline.D (x : TOutline) : D := .st [.lst (x.fLoops.map TLoop.D)]
def TPart.D (x : TPart) : D := .st [.int .i64 x.fGlyph, x.fMove.D]
def TAnchor.D (x : TAnchor) : D := .st [.str x.fName, x.fAt.D]
def TGlyph.D (x : TGlyph) : D := .st [.str x.fName, .int .i64 x.fCode, .int .i64 x.fAdvance, x.fOutline.D, .lst (x.fParts.map TPart.D), .lst (x.fAnchors.map TAnchor.D), .str x.fHints]
def TGlyphSet.D (x : TGlyphSet) : D := .st [.int .i64 x.fUnit, .lst (x.fGlyphs.map TGlyph.D)]
def TRule.D (x : TRule) : D := .st [.lst (x.fBefore.map (lstD (D.int .i64))), .lst (x.fInput.map (lstD (D.int .i64))), .lst (x.fAfter.map (lstD (D.int .i64))), .lst (x.fOutput.map (D.int .i64))]
def TLookup.D (x : TLookup) : D := .st [.str x.fName, .lst (x.fRules.map TRule.D)]
def TKern.D (x : TKern) : D := .st [.lst (x.fLeft.map (D.int .i64)), .lst (x.fRight.map (D.int .i64)), .int .i64 x.fValue]
def TMarkRule.D (x : TMarkRule) : D := .st [.lst (x.fMarks.map (D.int .i64)), .lst (x.fBases.map (D.int .i64)), .str x.fAnchor]
def TJoin.D (x : TJoin) : D := .st [.int .i64 x.fGlyph, .int .i64 x.fKind, .int .i64 x.fInit, .int .i64 x.fMedi, .int .i64 x.fFina]
def TFeatures.D (x : TFeatures) : D := .st [.lst (x.fLookups.map TLookup.D), .lst (x.fKerns.map TKern.D), .lst (x.fMarks.map TMarkRule.D), .lst (x.fJoins.map TJoin.D)]
def TItem.D (x : TItem) : D := .st [.int .i64 x.fGlyph, .int .i64 x.fFrom, .int .i64 x.fLen]
theorem rd2_list {P : Program} {T E : TypeId} {n : Nat} {α : Type} {f : α → D} (hT : P.underlying T = some (.slice E)) (hc : P.cellsOf T = 1) (hn : 0 < n) (hE : RdD P E n fun d => ∃ x, d = f x) : RdD P T 1 fun d => ∃ xs : List α, d = .lst (xs.map f) :=
  rd2_imp (rd2_slice hT hc hn hE) fun d ⟨xs, e, h⟩ => by
    subst e
    have : ∀ xs : List D, (∀ x ∈ xs, ∃ y, x = f y) → ∃ ys : List α, xs = ys.map f := by
      intro xs
      induction xs with
      | nil => intro _; exact ⟨[], rfl⟩
      | cons x xs ih =>
        intro h
        obtain ⟨y, hy⟩ := h x (by simp)
        obtain ⟨ys, hys⟩ := ih fun z hz => h z (by simp [hz])
        exact ⟨y :: ys, by simp [hy, hys]⟩
    obtain ⟨ys, hys⟩ := this xs h
    exact ⟨ys, by rw [hys]⟩
theorem own : ownKnob Tryd.prog.godebug = none := by kernel_rfl
theorem laidOut : laidOutB Tryd.prog = true := by kernel_rfl
set_option maxHeartbeats 4000000 in
theorem l29Map_v (xs : List TAxisPoint) : PC Tryd.prog 44 [.d (.lst (xs.map TAxisPoint.D))] (.d (.bool (mapB xs))) [] := by
  refine pc_intro ttOk (by kernel_rfl) Tryd.func44 rfl (by kernel_rfl) (by kernel_rfl) (by kernel_rfl) (fun hw => ?_)
  have hL : (xs.map TAxisPoint.D).length = xs.length := List.length_map _
  have hm : (xs.map TAxisPoint.D).length ≤ 9223372036854775807 := hw.1.1
  (conv => whnf)
  (refine br_ (fun h1 => ?_) (fun h1 => ?_) <;> (repeat (refine stg_ ?_)))
  · (refine RetOK.d rfl rfl ?_; conv => whnf)
    have : xs = [] := List.eq_nil_of_length_eq_zero (by omega)
    subst this
    rfl
  · have h0 : 0 < xs.length := by omega
    refine LoopW.go (α := Nat) (fun k => [(0, .d (.lst (xs.map TAxisPoint.D))), (3, .d (.int .i64 (fixN (xs.take k)))), (4, .d (.int .i64 k))]) (fun _ => [.gone]) (fun k => k ≤ xs.length ∧ mpGo none xs = mpGo (pv xs k) (xs.drop k)) (fun k => xs.length - k) 0 (Weak.cov ⟨rfl, rfl, rfl, trivial⟩ ⟨trivial, trivial⟩ rfl) ⟨by omega, rfl⟩ (fun k hp => ?_)
    obtain ⟨hk, hg⟩ := hp
    have hfl := fixN_le (xs.take k)
    have hfl2 : (xs.take k).length ≤ k := List.length_take_le k xs
    (conv => whnf)
    (refine br_ (fun h2 => ?_) (fun h2 => ?_) <;> (repeat (refine stg_ ?_)))
    · have h2' : k < xs.length := by omega
      obtain ⟨x, hx⟩ := at_lt' h2'
      rw [drop_at hx, mpGo_cons] at hg
      have hF := fixN_take hx
      cases hA : nrm x.fFrom with
      | false =>
        have c1 := l29Normal_v x.fFrom
        rw [hA] at c1
        (repeat (refine stg_ ?_))
        (refine cl_ (c1) ?_)
        (refine RetOK.d rfl rfl ?_; conv => whnf)
        rw [mapB_no h0 (by rw [hg, apB, hA]; rfl)]
      | true =>
        have c1 := l29Normal_v x.fFrom
        rw [hA] at c1
        cases hB : nrm x.fTo with
        | false =>
          have c2 := l29Normal_v x.fTo
          rw [hB] at c2
          (repeat (refine stg_ ?_))
          (refine cl_ (c1) ?_)
          (repeat (refine stg_ ?_))
          (refine cl_ (c2) ?_)
          (repeat (refine stg_ ?_))
          (refine RetOK.d rfl rfl ?_; conv => whnf)
          rw [mapB_no h0 (by rw [hg, apB, hA, hB]; rfl)]
        | true =>
          have c2 := l29Normal_v x.fTo
          rw [hB] at c2
          have hAB : apB x = true := by rw [apB, hA, hB]; rfl
          rw [hAB, Bool.true_and] at hg
          (repeat (refine stg_ ?_))
          (refine cl_ (c1) ?_)
          (repeat (refine stg_ ?_))
          (refine cl_ (c2) ?_)
          (repeat (refine stg_ ?_))
          (refine br_ (fun h3 => ?_) (fun h3 => ?_) <;> (repeat (refine stg_ ?_)))
          · obtain ⟨y, hy⟩ := at_lt' (xs := xs) (k := k - 1) (by omega)
            rw [pv_pos xs (by omega), hy] at hg
            have hy' : (xs.map TAxisPoint.D)[((k : Int) - 1).toNat]? = some y.D := by
              have : ((k : Int) - 1).toNat = k - 1 := by omega
              rw [this, List.getElem?_map, hy]; rfl
            have hlt : ltO (some y) x = (decide (y.fFrom < x.fFrom) && decide (y.fTo ≤ x.fTo)) := rfl
            refine IxW.at (by omega) hy' ?_
            (conv => whnf)
            (refine br_ (fun h4 => ?_) (fun h4 => ?_) <;> (repeat (refine stg_ ?_)))
            · (refine RetOK.d rfl rfl ?_; conv => whnf)
              rw [mapB_no h0 (by rw [hg, hlt, decide_eq_false (by omega)]; rfl)]
            · (repeat (refine stg_ ?_))
              refine IxW.at (by omega) hy' ?_
              (conv => whnf)
              (refine br_ (fun h5 => ?_) (fun h5 => ?_) <;> (repeat (refine stg_ ?_)))
              · (refine RetOK.d rfl rfl ?_; conv => whnf)
                rw [mapB_no h0 (by rw [hg, hlt, decide_eq_false (p := y.fTo ≤ x.fTo) (by omega), Bool.and_false, Bool.false_and])]
              · rw [hlt, decide_eq_true (p := y.fFrom < x.fFrom) (by omega), decide_eq_true (by omega), Bool.true_and, Bool.true_and] at hg
                (repeat' (first | (refine stg_ ?_) | (split <;> (conv => whnf))))
                all_goals (first | (have hb : fixB x = true := (by simp_all [fixB]); refine NextW.go (k + 1) (Weak.cov ⟨rfl, (by (show _ = V.d (D.int .i64 ((fixN (xs.take (k + 1)) : Nat) : Int))); rw [hF, if_pos hb]; rfl), rfl, trivial⟩ ⟨trivial, trivial⟩ rfl) ⟨by omega, by rw [pv_succ, hx, hg]⟩ (by omega)) | (have hb : ¬ fixB x = true := (by simp_all [fixB]); refine NextW.go (k + 1) (Weak.cov ⟨rfl, (by (show _ = V.d (D.int .i64 ((fixN (xs.take (k + 1)) : Nat) : Int))); rw [hF, if_neg hb]; rfl), rfl, trivial⟩ ⟨trivial, trivial⟩ rfl) ⟨by omega, by rw [pv_succ, hx, hg]⟩ (by omega)))
          · have : k = 0 := by omega
            have hlt : ltO (pv xs k) x = true := by rw [this]; rfl
            rw [hlt, Bool.true_and] at hg
            (repeat' (first | (refine stg_ ?_) | (split <;> (conv => whnf))))
            all_goals (first | (have hb : fixB x = true := (by simp_all [fixB]); refine NextW.go (k + 1) (Weak.cov ⟨rfl, (by (show _ = V.d (D.int .i64 ((fixN (xs.take (k + 1)) : Nat) : Int))); rw [hF, if_pos hb]; rfl), rfl, trivial⟩ ⟨trivial, trivial⟩ rfl) ⟨by omega, by rw [pv_succ, hx, hg]⟩ (by omega)) | (have hb : ¬ fixB x = true := (by simp_all [fixB]); refine NextW.go (k + 1) (Weak.cov ⟨rfl, (by (show _ = V.d (D.int .i64 ((fixN (xs.take (k + 1)) : Nat) : Int))); rw [hF, if_neg hb]; rfl), rfl, trivial⟩ ⟨trivial, trivial⟩ rfl) ⟨by omega, by rw [pv_succ, hx, hg]⟩ (by omega)))
    · have : k = xs.length := by omega
      subst this
      rw [List.drop_length] at hg
      rw [List.take_length] at *
      have hg : mpGo none xs = true := by rw [hg]; cases pv xs xs.length <;> rfl
      (repeat' (first | (refine stg_ ?_) | (split <;> (conv => whnf))))
      · rename_i he
        (refine RetOK.d rfl rfl ?_; conv => whnf)
        have he' : fixN xs = 3 := by simp at he; omega
        rw [mapB_yes h0 hg, decide_eq_true he', Bool.true_and, hL]
        congr 1
        exact decide_eq_decide.2 (by omega)
      · rename_i he
        (refine RetOK.d rfl rfl ?_; conv => whnf)
        have he' : ¬ fixN xs = 3 := by simp at he; omega
        rw [mapB_yes h0 hg, decide_eq_false he', Bool.false_and]
def axB (a : TAxis) : Bool := nameB a.fName && inB a.fMin (-32000) a.fDefault && inB a.fMax a.fDefault 32000 && decide (a.fMin < a.fMax) && mapB a.fMap
theorem l29Axis_v (a : TAxis) : PC Tryd.prog 27 [.pX a.D] (.d (.bool (axB a))) [] := by
  refine pc_intro ttOk (by kernel_rfl) Tryd.func27 rfl (by kernel_rfl) (by kernel_rfl) (by kernel_rfl) (fun hw => ?_)
  have c1 := specIsName_v a.fName
  have c2 := l00In_v a.fMin (-32000) a.fDefault
  have c3 := l00In_v a.fMax a.fDefault 32000
  have c4 := l29Map_v a.fMap
  have hB : axB a = (nameB a.fName && inB a.fMin (-32000) a.fDefault && inB a.fMax a.fDefault 32000 && decide (a.fMin < a.fMax) && mapB a.fMap) := rfl
  generalize nameB a.fName = b1 at *
  generalize inB a.fMin (-32000) a.fDefault = b2 at *
  generalize inB a.fMax a.fDefault 32000 = b3 at *
  generalize mapB a.fMap = b4 at *
  rw [hB]
  clear hB
  cases b1
  · (conv => whnf)
    (repeat (refine stg_ ?_))
    (refine cl_ (c1) ?_)
    (repeat' (first | (refine stg_ ?_) | (split <;> (conv => whnf))))
    all_goals ((refine RetOK.d rfl rfl ?_; conv => whnf); simp_all)
  · cases b2
    · (conv => whnf)
      (repeat (refine stg_ ?_))
      (refine cl_ (c1) ?_)
      (refine cl_ (c2) ?_)
      (repeat' (first | (refine stg_ ?_) | (split <;> (conv => whnf))))
      all_goals ((refine RetOK.d rfl rfl ?_; conv => whnf); simp_all)
    · cases b3
      · (conv => whnf)
        (repeat (refine stg_ ?_))
        (refine cl_ (c1) ?_)
        (refine cl_ (c2) ?_)
        (refine cl_ (c3) ?_)
        (repeat' (first | (refine stg_ ?_) | (split <;> (conv => whnf))))
        all_goals ((refine RetOK.d rfl rfl ?_; conv => whnf); simp_all)
      · (conv => whnf)
        (repeat (refine stg_ ?_))
        (refine cl_ (c1) ?_)
        (refine cl_ (c2) ?_)
        (refine cl_ (c3) ?_)
        (refine br_ (fun h1 => ?_) (fun h1 => ?_) <;> (repeat (refine stg_ ?_)))
        · (refine cl_ (c4) ?_)
          (repeat' (first | (refine stg_ ?_) | (split <;> (conv => whnf))))
          all_goals ((refine RetOK.d rfl rfl ?_; conv => whnf); simp_all)
        · (repeat' (first | (refine stg_ ?_) | (split <;> (conv => whnf))))
          all_goals ((refine RetOK.d rfl rfl ?_; conv => whnf); rw [decide_eq_false (p := a.fMin < a.fMax) (by omega)]; rfl)
def apEq (p x : TAxisPoint) : Bool := p.fFrom == x.fFrom && (p.fTo == x.fTo && true)
def ixGo (p : TAxisPoint) : List TAxisPoint → Nat → Int
  | [], _ => -1
  | x :: t, k => if apEq p x = true then (k : Int) else ixGo p t (k + 1)
theorem ixGo_any (p : TAxisPoint) : ∀ (xs : List TAxisPoint) (k : Nat), decide (0 ≤ ixGo p xs k) = xs.any (apEq p)
  | [], _ => rfl
  | x :: t, k => by
    rw [List.any_cons, ixGo]
    by_cases h : apEq p x = true
    · rw [if_pos h, h]
      simp
    · rw [if_neg h, ixGo_any p t (k + 1)]
      simp [h]
theorem ix_v (xs : List TAxisPoint) (p : TAxisPoint) : PC Tryd.prog 71 [.d (.lst (xs.map TAxisPoint.D)), .d p.D] (.d (.int .i64 (ixGo p xs 0))) [] := by
  refine pc_intro ttOk (by kernel_rfl) Tryd.func71 rfl (by kernel_rfl) (by kernel_rfl) (by kernel_rfl) (fun hw => ?_)
  have hL : (xs.map TAxisPoint.D).length = xs.length := List.length_map _
  have hm : (xs.map TAxisPoint.D).length ≤ 9223372036854775807 := hw.1.1
  (conv => whnf)
  refine LoopW.go (α := Nat) (fun k => [(0, .d (.lst (xs.map TAxisPoint.D))), (3, .pB 1 [] 0), (7, .d (.int .i64 (xs.map TAxisPoint.D).length)), (8, .d (.int .i64 k))]) (fun _ => [.gone, .box (.d p.D)]) (fun k => k ≤ xs.length ∧ ixGo p xs 0 = ixGo p (xs.drop k) k) (fun k => xs.length - k) 0 (Weak.cov ⟨rfl, rfl, rfl, rfl, trivial⟩ ⟨trivial, rfl, trivial⟩ rfl) ⟨by omega, rfl⟩ (fun k hp => ?_)
  obtain ⟨hk1, hk2⟩ := hp
  (conv => whnf)
  (refine br_ (fun h1 => ?_) (fun h1 => ?_) <;> (repeat (refine stg_ ?_)))
  · have h1' : k < xs.length := by omega
    obtain ⟨x, hx⟩ := at_lt' h1'
    rw [drop_at hx, ixGo] at hk2
    (repeat (refine stg_ ?_))
    split
    · rename_i h2
      rw [if_pos (show apEq p x = true from h2)] at hk2
      (conv => whnf)
      (refine RetOK.d rfl rfl ?_; conv => whnf)
      rw [hk2]
    · rename_i h2
      rw [if_neg (show ¬ apEq p x = true by rw [apEq, h2]; decide)] at hk2
      (conv => whnf)
      (repeat (refine stg_ ?_))
      exact NextW.go (k + 1) (Weak.cov ⟨rfl, rfl, rfl, rfl, trivial⟩ ⟨trivial, rfl, trivial⟩ rfl) ⟨by omega, hk2⟩ (by omega)
  · (refine RetOK.d rfl rfl ?_; conv => whnf)
    rw [hk2, List.drop_eq_nil_of_le (by omega)]; rfl
theorem ct_v (xs : List TAxisPoint) (p : TAxisPoint) : PC Tryd.prog 62 [.d (.lst (xs.map TAxisPoint.D)), .d p.D] (.d (.bool (xs.any (apEq p)))) [] := by
  refine pc_intro ttOk (by kernel_rfl) Tryd.func62 rfl (by kernel_rfl) (by kernel_rfl) (by kernel_rfl) (fun hw => ?_)
  (conv => whnf)
  (refine cl_ (ix_v xs p) ?_)
  (refine RetOK.d rfl rfl ?_; conv => whnf)
  rw [ixGo_any]
set_option maxHeartbeats 4000000 in
theorem validAxisMap_v (xs : List TAxisPoint) : PC Tryd.prog 46 [.d (.lst (xs.map TAxisPoint.D))] (.d (.bool (mapB xs))) [] := by
  refine pc_intro ttOk (by kernel_rfl) Tryd.func46 rfl (by kernel_rfl) (by kernel_rfl) (by kernel_rfl) (fun hw => ?_)
  have hL : (xs.map TAxisPoint.D).length = xs.length := List.length_map _
  have hm : (xs.map TAxisPoint.D).length ≤ 9223372036854775807 := hw.1.1
  (conv => whnf)
  split
  · rename_i h1
    (conv => whnf)
    (refine RetOK.d rfl rfl ?_; conv => whnf)
    have : xs = [] := List.eq_nil_of_length_eq_zero (by simp at h1; simpa using h1)
    subst this
    rfl
  · rename_i h1
    have h0 : 0 < xs.length := by
      have : ¬ xs.length = 0 := by intro hz; simp [hz] at h1
      omega
    (conv => whnf)
    refine LoopW.go (α := Nat) (fun k => [(0, .d (.lst (xs.map TAxisPoint.D))), (10, .d (.lst (xs.map TAxisPoint.D))), (11, .d (.int .i64 (xs.map TAxisPoint.D).length)), (12, .d (.int .i64 k))]) (fun _ => [.gone]) (fun k => k ≤ xs.length ∧ mpGo none xs = mpGo (pv xs k) (xs.drop k)) (fun k => xs.length - k) 0 (Weak.cov ⟨rfl, rfl, rfl, rfl, trivial⟩ ⟨trivial, trivial⟩ rfl) ⟨by omega, rfl⟩ (fun k hp => ?_)
    obtain ⟨hk, hg⟩ := hp
    (conv => whnf)
    (refine br_ (fun h2 => ?_) (fun h2 => ?_) <;> (repeat (refine stg_ ?_)))
    · have h2' : k < xs.length := by omega
      obtain ⟨x, hx⟩ := at_lt' h2'
      rw [drop_at hx, mpGo_cons] at hg
      cases hA : nrm x.fFrom with
      | false =>
        have c1 := isNormal_v x.fFrom
        rw [hA] at c1
        (repeat (refine stg_ ?_))
        (refine cl_ (c1) ?_)
        (refine RetOK.d rfl rfl ?_; conv => whnf)
        rw [mapB_no h0 (by rw [hg, apB, hA]; rfl)]
      | true =>
        have c1 := isNormal_v x.fFrom
        rw [hA] at c1
        cases hB : nrm x.fTo with
        | false =>
          have c2 := isNormal_v x.fTo
          rw [hB] at c2
          (repeat (refine stg_ ?_))
          (refine cl_ (c1) ?_)
          (repeat (refine stg_ ?_))
          (refine cl_ (c2) ?_)
          (repeat (refine stg_ ?_))
          (refine RetOK.d rfl rfl ?_; conv => whnf)
          rw [mapB_no h0 (by rw [hg, apB, hA, hB]; rfl)]
        | true =>
          have c2 := isNormal_v x.fTo
          rw [hB] at c2
          have hAB : apB x = true := by rw [apB, hA, hB]; rfl
          rw [hAB, Bool.true_and] at hg
          (repeat (refine stg_ ?_))
          (refine cl_ (c1) ?_)
          (repeat (refine stg_ ?_))
          (refine cl_ (c2) ?_)
          (repeat (refine stg_ ?_))
          (refine br_ (fun h3 => ?_) (fun h3 => ?_) <;> (repeat (refine stg_ ?_)))
          · obtain ⟨y, hy⟩ := at_lt' (xs := xs) (k := k - 1) (by omega)
            rw [pv_pos xs (by omega), hy] at hg
            have hy' : (xs.map TAxisPoint.D)[((k : Int) - 1).toNat]? = some y.D := by
              have : ((k : Int) - 1).toNat = k - 1 := by omega
              rw [this, List.getElem?_map, hy]; rfl
            have hlt : ltO (some y) x = (decide (y.fFrom < x.fFrom) && decide (y.fTo ≤ x.fTo)) := rfl
            refine IxW.at (by omega) hy' ?_
            (conv => whnf)
            (refine br_ (fun h4 => ?_) (fun h4 => ?_) <;> (repeat (refine stg_ ?_)))
            · (refine RetOK.d rfl rfl ?_; conv => whnf)
              rw [mapB_no h0 (by rw [hg, hlt, decide_eq_false (by omega)]; rfl)]
            · (repeat (refine stg_ ?_))
              refine IxW.at (by omega) hy' ?_
              (conv => whnf)
              (refine br_ (fun h5 => ?_) (fun h5 => ?_) <;> (repeat (refine stg_ ?_)))
              · (refine RetOK.d rfl rfl ?_; conv => whnf)
                rw [mapB_no h0 (by rw [hg, hlt, decide_eq_false (p := y.fTo ≤ x.fTo) (by omega), Bool.and_false, Bool.false_and])]
              · rw [hlt, decide_eq_true (p := y.fFrom < x.fFrom) (by omega), decide_eq_true (by omega), Bool.true_and, Bool.true_and] at hg
                (repeat (refine stg_ ?_))
                exact NextW.go (k + 1) (Weak.cov ⟨rfl, rfl, rfl, rfl, trivial⟩ ⟨trivial, trivial⟩ rfl) ⟨by omega, by rw [pv_succ, hx, hg]⟩ (by omega)
          · have : k = 0 := by omega
            have hlt : ltO (pv xs k) x = true := by rw [this]; rfl
            rw [hlt, Bool.true_and] at hg
            (repeat (refine stg_ ?_))
            exact NextW.go (k + 1) (Weak.cov ⟨rfl, rfl, rfl, rfl, trivial⟩ ⟨trivial, trivial⟩ rfl) ⟨by omega, by rw [pv_succ, hx, hg]⟩ (by omega)
    · have : k = xs.length := by omega
      subst this
      rw [List.drop_length] at hg
      have hg : mpGo none xs = true := by rw [hg]; cases pv xs xs.length <;> rfl
      (repeat (refine stg_ ?_))
      have hH : ∀ n : Int, xs.any (apEq ⟨n, n⟩) = hasB n xs := fun n => by simp only [hasB]; congr 1; funext x; simp [apEq]
      have hM := mapB_yes h0 hg
      rw [mapB_has xs hg] at hM
      refine LoopW.go (α := Nat) (fun k => [(0, .d (.lst (xs.map TAxisPoint.D))), (54, .own 1 0 3), (55, .d (.int .i64 3)), (56, .d (.int .i64 k))]) (fun _ => [.gone, .arr 1 [.int .i64 (-16384), .int .i64 0, .int .i64 16384] true]) (fun k => k ≤ 3 ∧ (0 < k → hasB (-16384) xs = true) ∧ (1 < k → hasB 0 xs = true) ∧ (2 < k → hasB 16384 xs = true)) (fun k => 3 - k) 0 (Weak.cov ⟨rfl, rfl, rfl, rfl, trivial⟩ ⟨trivial, rfl, trivial⟩ rfl) ⟨by omega, by omega, by omega, by omega⟩ (fun k hp => ?_)
      obtain ⟨hk, h0', h1', h2'⟩ := hp
      (conv => whnf)
      (refine br_ (fun h6 => ?_) (fun h6 => ?_) <;> (repeat (refine stg_ ?_)))
      · obtain rfl | rfl | rfl : k = 0 ∨ k = 1 ∨ k = 2 := by omega
        · have c := ct_v xs ⟨-16384, -16384⟩
          rw [hH] at c
          cases hb : hasB (-16384) xs with
          | false =>
            rw [hb] at c
            (repeat (refine stg_ ?_))
            refine EoW.at (y := .int .i64 (-16384)) rfl ?_
            (conv => whnf)
            (repeat (refine stg_ ?_))
            (apply CallW.use c; (focus exact ⟨_, _, rfl, rfl, _, _, rfl, ⟨_, rfl, _, rfl, _, _, rfl, rfl, _, _, rfl, rfl, rfl⟩, rfl⟩); (focus rfl); (conv => whnf))
            (refine RetOK.d rfl rfl ?_; conv => whnf)
            rw [hM, hb]; simp
          | true =>
            rw [hb] at c
            (repeat (refine stg_ ?_))
            refine EoW.at (y := .int .i64 (-16384)) rfl ?_
            (conv => whnf)
            (repeat (refine stg_ ?_))
            (apply CallW.use c; (focus exact ⟨_, _, rfl, rfl, _, _, rfl, ⟨_, rfl, _, rfl, _, _, rfl, rfl, _, _, rfl, rfl, rfl⟩, rfl⟩); (focus rfl); (conv => whnf))
            (repeat (refine stg_ ?_))
            exact NextW.go 1 (Weak.cov ⟨rfl, rfl, rfl, rfl, trivial⟩ ⟨trivial, rfl, trivial⟩ rfl) ⟨by omega, by intro hh; first | exact hb | rfl | exact h0' (by omega), by intro hh; first | (exfalso; omega) | exact hb | rfl | exact h1' (by omega), by intro hh; first | (exfalso; omega) | exact hb | rfl⟩ (by omega)
        · have c := ct_v xs ⟨0, 0⟩
          rw [hH] at c
          cases hb : hasB (0) xs with
          | false =>
            rw [hb] at c
            (repeat (refine stg_ ?_))
            refine EoW.at (y := .int .i64 (0)) rfl ?_
            (conv => whnf)
            (repeat (refine stg_ ?_))
            (apply CallW.use c; (focus exact ⟨_, _, rfl, rfl, _, _, rfl, ⟨_, rfl, _, rfl, _, _, rfl, rfl, _, _, rfl, rfl, rfl⟩, rfl⟩); (focus rfl); (conv => whnf))
            (refine RetOK.d rfl rfl ?_; conv => whnf)
            rw [hM, hb]; simp
          | true =>
            rw [hb] at c
            (repeat (refine stg_ ?_))
            refine EoW.at (y := .int .i64 (0)) rfl ?_
            (conv => whnf)
            (repeat (refine stg_ ?_))
            (apply CallW.use c; (focus exact ⟨_, _, rfl, rfl, _, _, rfl, ⟨_, rfl, _, rfl, _, _, rfl, rfl, _, _, rfl, rfl, rfl⟩, rfl⟩); (focus rfl); (conv => whnf))
            (repeat (refine stg_ ?_))
            exact NextW.go 2 (Weak.cov ⟨rfl, rfl, rfl, rfl, trivial⟩ ⟨trivial, rfl, trivial⟩ rfl) ⟨by omega, by intro hh; first | exact hb | rfl | exact h0' (by omega), by intro hh; first | (exfalso; omega) | exact hb | rfl | exact h1' (by omega), by intro hh; first | (exfalso; omega) | exact hb | rfl⟩ (by omega)
        · have c := ct_v xs ⟨16384, 16384⟩
          rw [hH] at c
          cases hb : hasB (16384) xs with
          | false =>
            rw [hb] at c
            (repeat (refine stg_ ?_))
            refine EoW.at (y := .int .i64 (16384)) rfl ?_
            (conv => whnf)
            (repeat (refine stg_ ?_))
            (apply CallW.use c; (focus exact ⟨_, _, rfl, rfl, _, _, rfl, ⟨_, rfl, _, rfl, _, _, rfl, rfl, _, _, rfl, rfl, rfl⟩, rfl⟩); (focus rfl); (conv => whnf))
            (refine RetOK.d rfl rfl ?_; conv => whnf)
            rw [hM, hb]; simp
          | true =>
            rw [hb] at c
            (repeat (refine stg_ ?_))
            refine EoW.at (y := .int .i64 (16384)) rfl ?_
            (conv => whnf)
            (repeat (refine stg_ ?_))
            (apply CallW.use c; (focus exact ⟨_, _, rfl, rfl, _, _, rfl, ⟨_, rfl, _, rfl, _, _, rfl, rfl, _, _, rfl, rfl, rfl⟩, rfl⟩); (focus rfl); (conv => whnf))
            (repeat (refine stg_ ?_))
            exact NextW.go 3 (Weak.cov ⟨rfl, rfl, rfl, rfl, trivial⟩ ⟨trivial, rfl, trivial⟩ rfl) ⟨by omega, by intro hh; first | exact hb | rfl | exact h0' (by omega), by intro hh; first | (exfalso; omega) | exact hb | rfl | exact h1' (by omega), by intro hh; first | (exfalso; omega) | exact hb | rfl⟩ (by omega)
      · (refine RetOK.d rfl rfl ?_; conv => whnf)
        rw [hM, h0' (by omega), h1' (by omega), h2' (by omega), hL]
        simp
        try omega
set_option maxHeartbeats 4000000 in
theorem ValidAxis_v (a : TAxis) : PC Tryd.prog 28 [.d a.D] (.d (.bool (axB a))) [] := by
  refine pc_intro ttOk (by kernel_rfl) Tryd.func28 rfl (by kernel_rfl) (by kernel_rfl) (by kernel_rfl) (fun hw => ?_)
  have c1 := IsName_v a.fName
  have c4 := validAxisMap_v a.fMap
  have hB : axB a = (nameB a.fName && (decide (-32000 ≤ a.fMin) && decide (a.fMin ≤ a.fDefault)) && (decide (a.fDefault ≤ a.fMax) && decide (a.fMax ≤ 32000)) && decide (a.fMin < a.fMax) && mapB a.fMap) := rfl
  generalize nameB a.fName = b1 at *
  generalize mapB a.fMap = b4 at *
  rw [hB]
  clear hB
  cases b1
  · (conv => whnf)
    (repeat (refine stg_ ?_))
    (refine cl_ (c1) ?_)
    (repeat' (first | (refine stg_ ?_) | (split <;> (conv => whnf))))
    all_goals ((refine RetOK.d rfl rfl ?_; conv => whnf); simp_all)
  · cases b4
    all_goals ((conv => whnf); (repeat (refine stg_ ?_)); ((refine cl_ (c1) ?_)); (repeat' (first | (refine stg_ ?_) | ((refine cl_ (c4) ?_)) | (split <;> (conv => whnf)))))
    all_goals ((refine RetOK.d rfl rfl ?_; conv => whnf); simp_all <;> (intros; omega))
section
variable {α : Type}
def eqL (f : α → α → Bool) : List α → List α → Bool
  | [], [] => true
  | x :: xs, y :: ys => f x y && eqL f xs ys
  | [], _ :: _ => false
  | _ :: _, [] => false
theorem eqL_len {f : α → α → Bool} : ∀ {xs ys : List α}, xs.length ≠ ys.length → eqL f xs ys = false
  | [], [], h => absurd rfl h
  | x :: xs, y :: ys, h => by
    rw [eqL, eqL_len (xs := xs) (ys := ys) (fun e => h (by simp [e])), Bool.and_false]
  | [], _ :: _, _ => rfl
  | _ :: _, [], _ => rfl
theorem eqL_at {f : α → α → Bool} {xs ys : List α} {k : Nat} {x y : α} (hx : xs[k]? = some x) (hy : ys[k]? = some y) : eqL f (xs.drop k) (ys.drop k) = (f x y && eqL f (xs.drop (k + 1)) (ys.drop (k + 1))) := by
  rw [drop_at hx, drop_at hy, eqL]
theorem eqL_end {f : α → α → Bool} {xs ys : List α} {k : Nat} (hx : xs.length ≤ k) (hy : ys.length ≤ k) : eqL f (xs.drop k) (ys.drop k) = true := by
  rw [List.drop_eq_nil_of_le hx, List.drop_eq_nil_of_le hy]; rfl
theorem set_drop {l : List α} {k : Nat} {x : α} (h : k < l.length) : (l.set k x).drop k = x :: l.drop (k + 1) := by
  have e : (l.set k x)[k]? = some x := by simp [h]
  rw [drop_at e, List.drop_set_of_lt (by omega)]
end

theorem axB_facts {a : TAxis} (h : axB a = true) : a.fMin ≤ a.fDefault ∧ a.fDefault ≤ a.fMax ∧ -32000 ≤ a.fMin ∧ a.fMax ≤ 32000 ∧ a.fMin < a.fMax ∧ mapB a.fMap = true := by
  simp only [axB, inB, Bool.and_eq_true, decide_eq_true_eq] at h
  exact ⟨h.1.1.1.2.2, h.1.1.2.1, h.1.1.1.2.1, h.1.1.2.2, h.1.2, h.2⟩
def plainN (a : TAxis) (v : Int) : Int :=
  if a.fDefault < max a.fMin (min a.fMax v) then divR ((max a.fMin (min a.fMax v) - a.fDefault) * 16384) (a.fMax - a.fDefault)
  else if max a.fMin (min a.fMax v) < a.fDefault then divR ((max a.fMin (min a.fMax v) - a.fDefault) * 16384) (a.fDefault - a.fMin) else 0
theorem divR_le {n d c : Int} (hd : 0 < d) (h : n ≤ c * d) : divR n d ≤ c := by
  rw [divR_pos hd]
  have a := Int.emod_nonneg n (show d ≠ 0 by omega)
  have b := Int.emod_lt_of_pos n hd
  have e := Int.emod_add_mul_ediv n d
  have h1 : n / d ≤ c := by
    have := Int.ediv_le_ediv hd h
    rwa [Int.mul_ediv_cancel c (by omega)] at this
  split
  · rcases Int.lt_or_eq_of_le h1 with h2 | h2
    · omega
    · exfalso
      rw [h2, Int.mul_comm] at e
      omega
  · exact h1
theorem le_divR {n d c : Int} (hd : 0 < d) (h : c * d ≤ n) : c ≤ divR n d := by
  rw [divR_pos hd]
  have h1 : c ≤ n / d := (Int.le_ediv_iff_mul_le hd).2 h
  split <;> omega
theorem plainN_nrm {a : TAxis} (h : axB a = true) (v : Int) : nrm (plainN a v) = true := by
  obtain ⟨h1, h2, h3, h4, h5, -⟩ := axB_facts h
  simp only [nrm, Bool.and_eq_true, decide_eq_true_eq]
  unfold plainN
  generalize hu : max a.fMin (min a.fMax v) = u
  have hu1 : a.fMin ≤ u := by omega
  have hu2 : u ≤ a.fMax := by omega
  split
  · exact ⟨le_divR (by omega) (by omega), divR_le (by omega) (by omega)⟩
  · split
    · exact ⟨le_divR (by omega) (by omega), divR_le (by omega) (by omega)⟩
    · omega
def mapGo (n : Int) : Option TAxisPoint → List TAxisPoint → Int
  | _, [] => n
  | none, q :: t => if n = q.fFrom then q.fTo else mapGo n (some q) t
  | some p, q :: t => if n = q.fFrom then q.fTo else if n < q.fFrom then p.fTo + divR ((n - p.fFrom) * (q.fTo - p.fTo)) (q.fFrom - p.fFrom) else mapGo n (some q) t
def mapN (a : TAxis) (n : Int) : Int := mapGo n none a.fMap
theorem mapGo_at (n : Int) {xs : List TAxisPoint} {k : Nat} {q : TAxisPoint} (hq : xs[k]? = some q) :
    mapGo n (pv xs k) (xs.drop k) = if n = q.fFrom then q.fTo else match pv xs k with
      | none => mapGo n (pv xs (k + 1)) (xs.drop (k + 1))
      | some p => if n < q.fFrom then p.fTo + divR ((n - p.fFrom) * (q.fTo - p.fTo)) (q.fFrom - p.fFrom) else mapGo n (pv xs (k + 1)) (xs.drop (k + 1)) := by
  rw [drop_at hq, pv_succ, hq]
  cases pv xs k <;> rfl
theorem mapGo_end (n : Int) {xs : List TAxisPoint} {k : Nat} (o : Option TAxisPoint) (hk : xs.length ≤ k) : mapGo n o (xs.drop k) = n := by
  rw [List.drop_eq_nil_of_le hk]
  cases o <;> rfl
theorem mp_ap : ∀ (xs : List TAxisPoint) (o : Option TAxisPoint), mpGo o xs = true → ∀ (k : Nat) (q : TAxisPoint), xs[k]? = some q → apB q = true
  | [], _, _, k, q, h => by simp at h
  | x :: t, o, h, k, q, hq => by
    rw [mpGo_cons] at h
    simp only [Bool.and_eq_true] at h
    cases k with
    | zero => simp at hq; rw [← hq]; exact h.1.1
    | succ k => exact mp_ap t (some x) h.2 k q (by simpa using hq)
theorem mp_lt : ∀ (xs : List TAxisPoint) (o : Option TAxisPoint), mpGo o xs = true → ∀ (k : Nat) (p q : TAxisPoint), xs[k]? = some p → xs[k + 1]? = some q → apLt p q = true
  | [], _, _, k, p, q, h, _ => by simp at h
  | x :: t, o, h, k, p, q, hp, hq => by
    rw [mpGo_cons] at h
    simp only [Bool.and_eq_true] at h
    cases k with
    | zero =>
      simp at hp hq
      subst hp
      cases t with
      | nil => simp at hq
      | cons y t =>
        simp at hq
        subst hq
        have := h.2
        rw [mpGo_cons] at this
        simp only [Bool.and_eq_true, ltO] at this
        exact this.1.2
    | succ k => exact mp_lt t (some x) h.2 k p q (by simpa using hp) (by simpa using hq)
theorem mapB_first {xs : List TAxisPoint} {q : TAxisPoint} (h : mapB xs = true) (hq : xs[0]? = some q) : q.fFrom = -16384 := by
  cases xs with
  | nil => simp at hq
  | cons x t =>
    simp at hq
    subst hq
    simp only [mapB, List.isEmpty_cons, Bool.false_or, Bool.and_eq_true, decide_eq_true_eq] at h
    have h1 := mapB_has (x :: t) h.1.1
    rw [decide_eq_true h.1.2] at h1
    have h1 := h1.symm
    simp only [Bool.and_eq_true] at h1
    have h2 := h1.1.1
    rw [← cntN_has] at h2
    have h3 := h.1.1
    rw [mpGo_cons] at h3
    simp only [Bool.and_eq_true, apB, nrm, decide_eq_true_eq] at h3
    have h4 := mpGo_low t x h3.2 (-16384) (by omega)
    rw [cntN, h4] at h2
    split at h2
    · rename_i h5
      simp only [Bool.and_eq_true, beq_iff_eq] at h5
      omega
    · omega
theorem mapB_mp {xs : List TAxisPoint} (h : mapB xs = true) : mpGo none xs = true := by
  cases xs with
  | nil => rfl
  | cons x t =>
    simp only [mapB, List.isEmpty_cons, Bool.false_or, Bool.and_eq_true] at h
    exact h.1.1
theorem step_bnd {x y d : Int} (h1 : 0 ≤ x) (h2 : x ≤ d) (h3 : 0 < d) (h4 : d ≤ 32768) (h5 : 0 ≤ y) (h6 : y ≤ 32768) : 0 ≤ x * y ∧ x * y ≤ 1073741824 ∧ 0 ≤ divR (x * y) d ∧ divR (x * y) d ≤ y := by
  have a : 0 ≤ x * y := Int.mul_nonneg h1 h5
  have b : x * y ≤ d * y := Int.mul_le_mul_of_nonneg_right h2 h5
  have c : d * y ≤ 32768 * y := Int.mul_le_mul_of_nonneg_right h4 h5
  refine ⟨a, by omega, le_divR h3 (by omega), divR_le h3 (by rw [Int.mul_comm y d]; exact b)⟩
theorem plain_v (a : TAxis) (v : Int) (hA : axB a = true) : PC Tryd.prog 30 [.d a.D, .d (.int .i64 v)] (.d (.int .i64 (plainN a v))) [] := by
  refine pc_intro ttOk (by kernel_rfl) Tryd.func30 rfl (by kernel_rfl) (by kernel_rfl) (by kernel_rfl) (fun hw => ?_)
  obtain ⟨f1, f2, f3, f4, f5, -⟩ := axB_facts hA
  have hP : plainN a v = if a.fDefault < max a.fMin (min a.fMax v) then divR ((max a.fMin (min a.fMax v) - a.fDefault) * 16384) (a.fMax - a.fDefault)
    else if max a.fMin (min a.fMax v) < a.fDefault then divR ((max a.fMin (min a.fMax v) - a.fDefault) * 16384) (a.fDefault - a.fMin) else 0 := rfl
  have hu : max a.fMin (min a.fMax v) = min (max v a.fMin) a.fMax := by omega
  rw [hu] at hP
  have hu1 : a.fMin ≤ min (max v a.fMin) a.fMax := by omega
  have hu2 : min (max v a.fMin) a.fMax ≤ a.fMax := by omega
  rw [hP]
  (conv => whnf)
  (repeat' (first | (refine stg_ ?_) | (refine cl_ (DivRound_v _ _) ?_) | (refine br_ (fun hbr => ?_) (fun hbr => ?_))))
  all_goals ((refine RetOK.d rfl rfl ?_; conv => whnf))
  (all_goals (first | rfl | (congr 1; omega) | (simp_all; done) | (simp; omega) | (simp_all; omega) | grind))
set_option maxHeartbeats 2000000 in
set_option maxHeartbeats 2000000 in
theorem mapNormal_v (a : TAxis) (n : Int) (hA : axB a = true) (hn : nrm n = true) : PC Tryd.prog 29 [.d a.D, .d (.int .i64 n)] (.d (.int .i64 (mapN a n))) [] := by
  refine pc_intro ttOk (by kernel_rfl) Tryd.func29 rfl (by kernel_rfl) (by kernel_rfl) (by kernel_rfl) (fun hw => ?_)
  obtain ⟨f1, f2, f3, f4, f5, f6⟩ := axB_facts hA
  simp only [nrm, Bool.and_eq_true, decide_eq_true_eq] at hn
  have f7 := mapB_mp f6
  have hL : (a.fMap.map TAxisPoint.D).length = a.fMap.length := List.length_map _
  have hm : (a.fMap.map TAxisPoint.D).length ≤ 9223372036854775807 := hw.1.2.2.2.2.1.1
  (conv => whnf)
  refine LoopW.go (α := Nat) (fun k => [(1, .d (.int .i64 n)), (2, .pB 1 [] 0), (9, .d (.lst (a.fMap.map TAxisPoint.D))), (10, .d (.int .i64 (a.fMap.map TAxisPoint.D).length)), (11, .d (.int .i64 k))]) (fun k => [.gone, .box (.d a.D)]) (fun k => k ≤ a.fMap.length ∧ (∀ p, pv a.fMap k = some p → p.fFrom ≤ n) ∧ mapN a n = mapGo n (pv a.fMap k) (a.fMap.drop k)) (fun k => a.fMap.length - k) 0 covT_ ?_ (fun k hk => ?_)
  · exact ⟨by omega, fun p hp => by simp [pv] at hp, rfl⟩
  obtain ⟨hk1, hk3, hk2⟩ := hk
  (conv => whnf)
  (refine br_ (fun h2 => ?_) (fun h2 => ?_) <;> (repeat (refine stg_ ?_)))
  · obtain ⟨q, hq⟩ := at_lt' (xs := a.fMap) (k := k) (by omega)
    rw [mapGo_at n hq] at hk2
    have aq := mp_ap _ _ f7 k q hq
    simp only [apB, nrm, Bool.and_eq_true, decide_eq_true_eq] at aq
    (repeat (refine stg_ ?_))
    (refine br_ (fun h3 => ?_) (fun h3 => ?_) <;> (repeat (refine stg_ ?_)))
    · (refine RetOK.d rfl rfl ?_; conv => whnf)
      rw [hk2, if_pos h3]
    · rw [if_neg h3] at hk2
      rcases Nat.eq_zero_or_pos k with rfl | h0
      · rw [pv_zero] at hk2
        have := mapB_first f6 hq
        (refine br_ (fun h4 => ?_) (fun h4 => ?_) <;> (repeat (refine stg_ ?_)))
        · exfalso; omega
        · exact NextW.go (0 + 1) covT_ ⟨by omega, fun p hp => by rw [pv_succ, hq] at hp; cases hp; omega, by rw [hk2]⟩ (by omega)
      · obtain ⟨p, hp⟩ := at_lt' (xs := a.fMap) (k := k - 1) (by omega)
        have ap := mp_ap _ _ f7 (k - 1) p hp
        simp only [apB, nrm, Bool.and_eq_true, decide_eq_true_eq] at ap
        have lt := mp_lt _ _ f7 (k - 1) p q hp (by rw [show k - 1 + 1 = k by omega]; exact hq)
        simp only [apLt, Bool.and_eq_true, decide_eq_true_eq] at lt
        rw [pv_pos _ h0, hp] at hk2
        have hp' : (a.fMap.map TAxisPoint.D)[((k : Int) - 1).toNat]? = some p.D := by
          have : ((k : Int) - 1).toNat = k - 1 := by omega
          rw [this, List.getElem?_map, hp]; rfl
        by_cases h4 : n < q.fFrom
        · have sb := fun hx => step_bnd (x := n - p.fFrom) (y := q.fTo - p.fTo) (d := q.fFrom - p.fFrom) hx (by omega) (by omega) (by omega) (by omega) (by omega)
          have : 0 ≤ n - p.fFrom := by have := hk3 p (by rw [pv_pos _ h0, hp]); omega
          have sb := sb this
          simp only [if_pos h4] at hk2
          (repeat' (first | (refine stg_ ?_) | (refine IxW.at (by omega) hp' ?_; (conv => whnf)) | (refine cl_ (DivRound_v _ _) ?_) | (refine br_ (fun hbr => ?_) (fun hbr => ?_))))
          all_goals first | (exfalso; omega) | ((refine RetOK.d rfl rfl ?_; conv => whnf); rw [hk2])
        · simp only [if_neg h4] at hk2
          (repeat' (first | (refine stg_ ?_) | fail | (refine br_ (fun hbr => ?_) (fun hbr => ?_))))
          all_goals first | (exfalso; omega) | exact NextW.go (k + 1) covT_ ⟨by omega, fun p hp => by rw [pv_succ, hq] at hp; cases hp; omega, by rw [hk2]⟩ (by omega)
  · (refine RetOK.d rfl rfl ?_; conv => whnf)
    rw [hk2, mapGo_end n _ (by omega)]
def cdA (b : Bool) : Int := if b = true then 0 else 1
def plI (a : TAxis) (v : Int) : Int := if axB a = true then plainN a v else 0
def nmI (a : TAxis) (v : Int) : Int := if axB a = true then mapN a (plainN a v) else 0
def mpI (a : TAxis) (n : Int) : Int := if axB a = true then (if nrm n = true then mapN a n else 0) else 0
def mpC (a : TAxis) (n : Int) : Int := if axB a = true then (if nrm n = true then 0 else 2) else 1
theorem PlainNormal_v (a : TAxis) (v : Int) : PC Tryd.prog 14 [.d a.D, .d (.int .i64 v)] (.tup [.d (.int .i64 (plI a v)), .d (.int .i64 (cdA (axB a)))]) [] := by
  refine pc_intro ttOk (by kernel_rfl) Tryd.func14 rfl (by kernel_rfl) (by kernel_rfl) (by kernel_rfl) (fun hw => ?_)
  cases hA : axB a
  · (conv => whnf)
    (repeat' (first | (refine stg_ ?_) | (refine cla_ (ValidAxis_v a) ?_) | (refine br_ (fun hbr => ?_) (fun hbr => ?_))))
    all_goals first | (exfalso; simp_all; done) | ((refine RetOK.t rfl ?_; (repeat' ((conv => whnf); (first | done | (refine ⟨_, _, rfl, ⟨rfl, ?_⟩, ?_⟩) | fail))); (all_goals (conv => whnf))); (all_goals simp [plI, cdA, hA]))
  · (conv => whnf)
    (repeat' (first | (refine stg_ ?_) | (refine cla_ (ValidAxis_v a) ?_) | (refine cla_ (plain_v a v hA) ?_) | (refine br_ (fun hbr => ?_) (fun hbr => ?_))))
    all_goals first | (exfalso; simp_all; done) | ((refine RetOK.t rfl ?_; (repeat' ((conv => whnf); (first | done | (refine ⟨_, _, rfl, ⟨rfl, ?_⟩, ?_⟩) | fail))); (all_goals (conv => whnf))); (all_goals simp [plI, cdA, hA]))
theorem NormalOf_v (a : TAxis) (v : Int) : PC Tryd.prog 13 [.d a.D, .d (.int .i64 v)] (.tup [.d (.int .i64 (nmI a v)), .d (.int .i64 (cdA (axB a)))]) [] := by
  refine pc_intro ttOk (by kernel_rfl) Tryd.func13 rfl (by kernel_rfl) (by kernel_rfl) (by kernel_rfl) (fun hw => ?_)
  cases hA : axB a
  · (conv => whnf)
    (repeat' (first | (refine stg_ ?_) | (refine cla_ (ValidAxis_v a) ?_) | (refine br_ (fun hbr => ?_) (fun hbr => ?_))))
    all_goals first | (exfalso; simp_all; done) | ((refine RetOK.t rfl ?_; (repeat' ((conv => whnf); (first | done | (refine ⟨_, _, rfl, ⟨rfl, ?_⟩, ?_⟩) | fail))); (all_goals (conv => whnf))); (all_goals simp [nmI, cdA, hA]))
  · (conv => whnf)
    (repeat' (first | (refine stg_ ?_) | (refine cla_ (ValidAxis_v a) ?_) | (refine cla_ (plain_v a v hA) ?_) | (refine cla_ (mapNormal_v a _ hA (plainN_nrm hA v)) ?_) | (refine br_ (fun hbr => ?_) (fun hbr => ?_))))
    all_goals first | (exfalso; simp_all; done) | ((refine RetOK.t rfl ?_; (repeat' ((conv => whnf); (first | done | (refine ⟨_, _, rfl, ⟨rfl, ?_⟩, ?_⟩) | fail))); (all_goals (conv => whnf))); (all_goals simp [nmI, cdA, hA]))
theorem MapNormal_v (a : TAxis) (n : Int) : PC Tryd.prog 15 [.d a.D, .d (.int .i64 n)] (.tup [.d (.int .i64 (mpI a n)), .d (.int .i64 (mpC a n))]) [] := by
  refine pc_intro ttOk (by kernel_rfl) Tryd.func15 rfl (by kernel_rfl) (by kernel_rfl) (by kernel_rfl) (fun hw => ?_)
  cases hA : axB a
  · (conv => whnf)
    (repeat' (first | (refine stg_ ?_) | (refine cla_ (ValidAxis_v a) ?_) | (refine br_ (fun hbr => ?_) (fun hbr => ?_))))
    all_goals first | (exfalso; simp_all; done) | ((refine RetOK.t rfl ?_; (repeat' ((conv => whnf); (first | done | (refine ⟨_, _, rfl, ⟨rfl, ?_⟩, ?_⟩) | fail))); (all_goals (conv => whnf))); (all_goals simp [mpI, mpC, hA]))
  · cases hN : nrm n
    · (conv => whnf)
      (repeat' (first | (refine stg_ ?_) | (refine cla_ (ValidAxis_v a) ?_) | (refine cla_ (isNormal_v n) ?_) | (refine br_ (fun hbr => ?_) (fun hbr => ?_))))
      all_goals first | (exfalso; simp_all; done) | ((refine RetOK.t rfl ?_; (repeat' ((conv => whnf); (first | done | (refine ⟨_, _, rfl, ⟨rfl, ?_⟩, ?_⟩) | fail))); (all_goals (conv => whnf))); (all_goals simp [mpI, mpC, hA, hN]))
    · (conv => whnf)
      (repeat' (first | (refine stg_ ?_) | (refine cla_ (ValidAxis_v a) ?_) | (refine cla_ (isNormal_v n) ?_) | (refine cla_ (mapNormal_v a n hA hN) ?_) | (refine br_ (fun hbr => ?_) (fun hbr => ?_))))
      all_goals first | (exfalso; simp_all; done) | ((refine RetOK.t rfl ?_; (repeat' ((conv => whnf); (first | done | (refine ⟨_, _, rfl, ⟨rfl, ?_⟩, ?_⟩) | fail))); (all_goals (conv => whnf))); (all_goals simp [mpI, mpC, hA, hN]))
def mkS (l : List UInt8) : ByteArray := ⟨l.toArray⟩
theorem mkS_toList (l : List UInt8) : (mkS l).data.toList = l := by simp [mkS]
theorem mkS_size (l : List UInt8) : (mkS l).size = l.length := by simp [mkS, ByteArray.size]
theorem mkS_of (s : ByteArray) : mkS s.data.toList = s := by
  apply ByteArray.ext
  simp [mkS]
def dgC (d : Nat) : UInt8 := UInt8.ofNat (48 + d)
def decL (u : Nat) : List UInt8 := if u < 10 then [dgC u] else decL (u / 10) ++ [dgC (u % 10)]
termination_by u
theorem decL_lo {u : Nat} (h : u < 10) : decL u = [dgC u] := by rw [decL, if_pos h]
theorem decL_hi {u : Nat} (h : ¬ u < 10) : decL u = decL (u / 10) ++ [dgC (u % 10)] := by rw [decL, if_neg h]
theorem decL_pos (u : Nat) : 0 < (decL u).length := by
  rw [decL]; split <;> simp
theorem decL_len : ∀ (k u : Nat), u < 10 ^ (k + 1) → (decL u).length ≤ k + 1
  | 0, u, h => by rw [decL_lo (by simpa using h)]; simp
  | k + 1, u, h => by
    by_cases h1 : u < 10
    · rw [decL_lo h1]; simp
    · rw [decL_hi h1]
      have := decL_len k (u / 10) (by rw [Nat.div_lt_iff_lt_mul (by omega)]; rw [Nat.pow_succ] at h; exact h)
      simp; omega
def decS (n : Int) : List UInt8 := (if n < 0 then [45] else []) ++ decL n.natAbs
def decB (n : Int) : ByteArray := mkS (decS n)
theorem dgC_toNat {d : Nat} (h : d < 10) : (dgC d).toNat = 48 + d := by simp [dgC]; omega
theorem decB_size (n : Int) (h : n.natAbs < 10 ^ 20) : (decB n).size ≤ 21 := by
  rw [decB, mkS_size, decS, List.length_append]
  have := decL_len 19 n.natAbs h
  split <;> simp <;> omega
theorem natAbs_bnd {n : Int} (h1 : -9223372036854775808 ≤ n) (h2 : n ≤ 9223372036854775807) : n.natAbs < 10 ^ 20 := by omega
set_option maxHeartbeats 1000000 in
theorem Decimal_v (n : Int) : PC Tryd.prog 32 [.d (.int .i64 n)] (.d (.str (decB n))) [] := by
  refine pc_intro ttOk (by kernel_rfl) Tryd.func32 rfl (by kernel_rfl) (by kernel_rfl) (by kernel_rfl) (fun hw => ?_)
  have hn : -9223372036854775808 ≤ n ∧ n ≤ 9223372036854775807 := hw.1
  by_cases hn0 : n < 0
  · (conv => whnf)
    refine ⟨n + 18446744073709551616, by simp only [IntKind.wrap, IntKind.bits, IntKind.signed, Bool.false_and, Bool.false_eq_true, if_false, Int.reducePow]; omega, ?_⟩
    (conv => whnf)
    (refine br_ (fun h1 => ?_) (fun h1 => ?_) <;> (repeat (refine stg_ ?_)))
    · refine ⟨(n.natAbs : Int), by simp only [IntKind.wrap, IntKind.bits, IntKind.signed, Bool.false_and, Bool.false_eq_true, if_false, Int.reducePow]; omega, ?_⟩
      (conv => whnf)
      refine LoopW.go (α := Nat × Nat × List UInt8) (fun p => [(0, .d (.int .i64 n)), (3, .pL 1 0 [] 0), (4, .d (.int .i64 (p.1 : Nat))), (5, .d (.int .u64 (p.2.1 : Nat)))]) (fun p => [.gone, .arr 1 (p.2.2.map bD) true]) (fun p => p.1 ≤ 20 ∧ p.2.2.length = 20 ∧ decL n.natAbs = decL p.2.1 ++ p.2.2.drop p.1 ∧ p.2.1 < 10 ^ (p.1 - 1) ∧ 1 < p.1 ∧ p.2.1 ≤ n.natAbs) (fun p => p.1) (20, n.natAbs, List.replicate 20 0) covT_ ⟨by omega, rfl, by rw [List.drop_eq_nil_of_le (by simp)]; simp, by simp only; omega, by show 1 < 20; decide, Nat.le_refl _⟩ ?_; rintro ⟨at', u, bs⟩ ⟨k1, k2, k3, k4, k5, k6⟩; dsimp only at k1 k2 k3 k4 k5 k6 ⊢
      (have hu : u ≤ 18446744073709551615 := by omega); (have ht : (u : Int).tmod 10 = ((u % 10 : Nat) : Int) := by rw [Int.tmod_eq_emod_of_nonneg (by omega)]; rfl); (have hd : (u : Int).tdiv 10 = ((u / 10 : Nat) : Int) := by rw [Int.tdiv_eq_ediv_of_nonneg (by omega)]; rfl); (obtain ⟨c0, hc0⟩ := at_lt' (xs := bs) (k := at' - 1) (by omega)); (have he : (bs.map bD)[at' - 1]? = some (bD c0) := by rw [List.getElem?_map, hc0]; rfl)
      (conv => whnf)
      (refine ArW.i64e ((at' - 1 : Nat) : Int) (by omega) (by omega) ?_; (conv => whnf); (refine stg_ ?_); rw [ht]; (refine stg_ ?_); refine ArW.u8e ((dgC (u % 10)).toNat : Int) (by rw [dgC_toNat (by omega)]; omega) (by have := (dgC (u % 10)).toNat_lt; omega) ?_; (conv => whnf); (repeat (refine stg_ ?_)); rw [hd])
      have hs := set_drop (l := bs) (k := at' - 1) (x := dgC (u % 10)) (by omega)
      rw [show at' - 1 + 1 = at' by omega] at hs
      have hm : (bs.set (at' - 1) (dgC (u % 10))).map bD = (bs.map bD).set (at' - 1) (bD (dgC (u % 10))) := List.map_set
      (refine br_ (fun h2 => ?_) (fun h2 => ?_) <;> (repeat (refine stg_ ?_)))
      · (conv => whnf)
        have hu0 : u < 10 := by omega
        obtain ⟨c1, hc1⟩ := at_lt' (xs := bs.set (at' - 1) (dgC (u % 10))) (k := at' - 1 - 1) (by simp only [List.length_set]; omega)
        have he1 : ((bs.map bD).set (at' - 1) (bD (dgC (u % 10))))[at' - 1 - 1]? = some (bD c1) := by rw [← hm, List.getElem?_map, hc1]; rfl
        (refine br_ (fun h3 => ?_) (fun h3 => ?_))
        · refine ArW.i64e ((at' - 1 - 1 : Nat) : Int) (by omega) (by omega) ?_
          (conv => whnf)
          (repeat (refine stg_ ?_))
          refine EqW.at (by simp only [List.length_set, List.length_map]; exact k2) ?_
          (conv => whnf)
          (repeat (refine stg_ ?_))
          refine StW.at (s := decB n) ?_ ?_
          · show List.take (20 - (at' - 1 - 1)) (List.drop (at' - 1 - 1) (((bs.map bD).set (at' - 1) (bD (dgC (u % 10)))).set (at' - 1 - 1) (bD 45))) = _
            rw [← hm, ← List.map_set, ← List.map_drop, set_drop (by simp only [List.length_set]; omega), show at' - 1 - 1 + 1 = at' - 1 by omega, hs, List.take_of_length_le (by simp; omega), decB, mkS_toList, decS, if_pos hn0, k3, decL_lo hu0, Nat.mod_eq_of_lt hu0]
            rfl
          · (conv => whnf)
            (refine RetOK.d rfl rfl ?_; conv => whnf)
        · exfalso; omega
      · (refine NextW.go (at' - 1, u / 10, bs.set (at' - 1) (dgC (u % 10))) (Weak.cov ⟨rfl, rfl, rfl, rfl, trivial⟩ ⟨trivial, by rw [hm]; rfl, trivial⟩ rfl) ⟨by simp only; omega, by simp only [List.length_set]; omega, ?_, ?_, ?_, by show u / 10 ≤ n.natAbs; omega⟩ (by show at' - 1 < at'; omega); (focus (show decL n.natAbs = decL (u / 10) ++ (bs.set (at' - 1) (dgC (u % 10))).drop (at' - 1); rw [hs, k3, decL_hi (by omega)]; simp)); (focus (show u / 10 < 10 ^ (at' - 1 - 1); rw [Nat.div_lt_iff_lt_mul (by omega), ← Nat.pow_succ]; rwa [show (at' - 1 - 1).succ = at' - 1 by omega])); (focus (show 1 < at' - 1; rcases Nat.lt_or_ge 1 (at' - 1) with h | h; (focus exact h); exfalso; (have e : at' - 1 = 1 := by omega); (rw [e] at k4); (have : u < 10 := by simpa using k4); omega)))
    · exfalso; omega
  · (conv => whnf)
    refine ⟨(n.natAbs : Int), by simp only [IntKind.wrap, IntKind.bits, IntKind.signed, Bool.false_and, Bool.false_eq_true, if_false, Int.reducePow]; omega, ?_⟩
    (conv => whnf)
    (refine br_ (fun h1 => ?_) (fun h1 => ?_))
    · exfalso; omega
    · refine LoopW.go (α := Nat × Nat × List UInt8) (fun p => [(0, .d (.int .i64 n)), (3, .pL 1 0 [] 0), (4, .d (.int .i64 (p.1 : Nat))), (5, .d (.int .u64 (p.2.1 : Nat)))]) (fun p => [.gone, .arr 1 (p.2.2.map bD) true]) (fun p => p.1 ≤ 20 ∧ p.2.2.length = 20 ∧ decL n.natAbs = decL p.2.1 ++ p.2.2.drop p.1 ∧ p.2.1 < 10 ^ (p.1 - 0) ∧ 0 < p.1 ∧ p.2.1 ≤ n.natAbs) (fun p => p.1) (20, n.natAbs, List.replicate 20 0) covT_ ⟨by omega, rfl, by rw [List.drop_eq_nil_of_le (by simp)]; simp, by simp only; omega, by show 0 < 20; decide, Nat.le_refl _⟩ ?_; rintro ⟨at', u, bs⟩ ⟨k1, k2, k3, k4, k5, k6⟩; dsimp only at k1 k2 k3 k4 k5 k6 ⊢
      (have hu : u ≤ 18446744073709551615 := by omega); (have ht : (u : Int).tmod 10 = ((u % 10 : Nat) : Int) := by rw [Int.tmod_eq_emod_of_nonneg (by omega)]; rfl); (have hd : (u : Int).tdiv 10 = ((u / 10 : Nat) : Int) := by rw [Int.tdiv_eq_ediv_of_nonneg (by omega)]; rfl); (obtain ⟨c0, hc0⟩ := at_lt' (xs := bs) (k := at' - 1) (by omega)); (have he : (bs.map bD)[at' - 1]? = some (bD c0) := by rw [List.getElem?_map, hc0]; rfl)
      (conv => whnf)
      (refine ArW.i64e ((at' - 1 : Nat) : Int) (by omega) (by omega) ?_; (conv => whnf); (refine stg_ ?_); rw [ht]; (refine stg_ ?_); refine ArW.u8e ((dgC (u % 10)).toNat : Int) (by rw [dgC_toNat (by omega)]; omega) (by have := (dgC (u % 10)).toNat_lt; omega) ?_; (conv => whnf); (repeat (refine stg_ ?_)); rw [hd])
      have hs := set_drop (l := bs) (k := at' - 1) (x := dgC (u % 10)) (by omega)
      rw [show at' - 1 + 1 = at' by omega] at hs
      have hm : (bs.set (at' - 1) (dgC (u % 10))).map bD = (bs.map bD).set (at' - 1) (bD (dgC (u % 10))) := List.map_set
      (refine br_ (fun h2 => ?_) (fun h2 => ?_) <;> (repeat (refine stg_ ?_)))
      · (conv => whnf)
        have hu0 : u < 10 := by omega
        (refine br_ (fun h3 => ?_) (fun h3 => ?_))
        · exfalso; omega
        · refine EqW.at (by simp only [List.length_set, List.length_map]; exact k2) ?_
          (conv => whnf)
          (repeat (refine stg_ ?_))
          refine StW.at (s := decB n) ?_ ?_
          · show List.take (20 - (at' - 1)) (List.drop (at' - 1) ((bs.map bD).set (at' - 1) (bD (dgC (u % 10))))) = _
            rw [← hm, ← List.map_drop, hs, List.take_of_length_le (by simp; omega), decB, mkS_toList, decS, if_neg hn0, k3, decL_lo hu0, Nat.mod_eq_of_lt hu0]
            rfl
          · (conv => whnf)
            (refine RetOK.d rfl rfl ?_; conv => whnf)
      · (refine NextW.go (at' - 1, u / 10, bs.set (at' - 1) (dgC (u % 10))) (Weak.cov ⟨rfl, rfl, rfl, rfl, trivial⟩ ⟨trivial, by rw [hm]; rfl, trivial⟩ rfl) ⟨by simp only; omega, by simp only [List.length_set]; omega, ?_, ?_, ?_, by show u / 10 ≤ n.natAbs; omega⟩ (by show at' - 1 < at'; omega); (focus (show decL n.natAbs = decL (u / 10) ++ (bs.set (at' - 1) (dgC (u % 10))).drop (at' - 1); rw [hs, k3, decL_hi (by omega)]; simp)); (focus (show u / 10 < 10 ^ (at' - 1 - 0); rw [Nat.div_lt_iff_lt_mul (by omega), ← Nat.pow_succ]; rwa [show (at' - 1 - 0).succ = at' - 0 by omega])); (focus (show 0 < at' - 1; rcases Nat.lt_or_ge 0 (at' - 1) with h | h; (focus exact h); exfalso; (have e : at' - 0 = 1 := by omega); (rw [e] at k4); (have : u < 10 := by simpa using k4); omega)))
open Go.RowKit Go.Shelf
section
variable {P : Program} {ρ : Ren}
theorem setCell_heap0 {w : World} {g : Nat} {cs : Array Value} {T : TypeId} (h : w.heap[g]? = some (.cells cs T (0, 0))) (j : Nat) (v : Value) : (w.setCell ⟨g, j, none⟩ v).heap[g]? = some (.cells (cs.setIfInBounds j v) T (0, 0)) := by
  rw [setCell_eq_setRow w g j cs T (0, 0) v h]
  exact setRow_heap w g cs _ T _ h
theorem setCell_other0 {w : World} {g k : Nat} (hk : k ≠ g) (j : Nat) (v : Value) : (w.setCell ⟨g, j, none⟩ v).heap[k]? = w.heap[k]? := by
  simp [World.setCell, Array.getElem?_modify, Ne.symm hk]
theorem setCell_size0 {w : World} {g : Nat} (j : Nat) (v : Value) : (w.setCell ⟨g, j, none⟩ v).heap.size = w.heap.size := by simp [World.setCell]
structure OnlyB (w w' : World) (b : Nat) : Prop where
  os : w'.os = w.os
  tape : w'.tape = w.tape
  output : w'.output = w.output
  size : w'.heap.size = w.heap.size
  ch : ∀ x, x ≠ b → w'.heap[x]? = w.heap[x]?
end
structure BC (P : Program) (f : FuncId) (T E : TypeId) (bs : List UInt8) (rest : List V) (v : V) (bs' : List UInt8) : Prop where
  fn : ∃ fn, P.funcs[f]? = some fn ∧ (fn.name == "runtime.NumGoroutine") = false ∧ fn.body.isNone = false
  run : ∀ (w : World) (g : Nat) (F : List Nat) (args : List Value), repT w [none] [.gone] rest args → bldR w g F T E bs → g ∉ F →
    Calls P f (.pointer (some ⟨g, 0, none⟩) :: args).toArray w fun en w' => ∃ cv F', en = .returned cv ∧ (∀ M h, rep w' M h v cv) ∧ bldR w' g F' T E bs' ∧ Kept w w' (g :: F) (g :: F')
theorem BC.call {P : Program} {f : FuncId} {T E : TypeId} {bs bs' : List UInt8} {rest : List V} {v : V} (bc : BC P f T E bs rest v bs') {b : Nat} {e : Env} {h : List Blk} {K : V → Env → List Blk → Prop}
    (hb : h[b]? = some (.bld T E bs)) (hb0 : Nat.ble 1 b = true) (hr : plains rest = true) (H : K v e (h.set b (.bld T E bs'))) : CallM P f (.pB b [] 0 :: rest) e h K where
  fn := bc.fn
  run B X N M a w args R hargs := by
    obtain ⟨c0, args, rfl, h1, h2⟩ := hargs
    have h2' := plains_rep (w' := w) (M' := [none]) (h' := [.gone]) rest args hr h2
    have hb1 : 1 ≤ b := Nat.le_of_ble_eq_true hb0
    obtain ⟨g, F, m1, rfl⟩ := rep_pB.1 (rep_of_rep1 h1)
    have hbr : bldR w g F T E bs := R.inv.blk b _ _ hb m1
    have nd : (g :: F).Nodup := mO_nodup R.inv m1
    refine (bc.run w g F args h2' hbr (List.nodup_cons.1 nd).1).mono ?_
    rintro en w' ⟨cv, F', rfl, q1, q5, q2⟩
    have hxB : Ext B w' := by
      have hlo := R.inv.lo b _ _ hb m1 rfl
      refine Below.trans R.ext ⟨q2.os, q2.tape, q2.output, q2.size, fun k hk => q2.ch k (Nat.lt_of_lt_of_le hk R.base) (fun hm => ?_)⟩
      have := hlo k hm
      omega
    have q5' := q5
    obtain ⟨p, vv, hbk, _, hrow⟩ := q5'
    have hbk0 := hbr
    obtain ⟨p0, vv0, hbk0, _, _⟩ := hbk0
    obtain ⟨M', R', _, _⟩ := R.reset (w' := w') hxB m1 (by omega) hb (.inl rfl) [] [] (by simp) (by simp) (by simp) (by simp) (m' := some (g, F')) q2.nd
      (fun x hx => (q2.sub x hx).imp id (fun q => .inr q)) q2.hi q2.size (fun x hx hxm => q2.ch x hx hxm) (k' := .bld T E bs') rfl
      (fun _ g1 F1 e1 => by
        cases e1
        refine ⟨⟨F', rfl⟩, ?_, fun arr1 t1 hg1 => ?_⟩
        · simp only [nOf, hb, List.getElem?_set_self (List.getElem?_eq_some_iff.1 hb).1]
        · rw [hbk0] at hg1
          cases hg1
          exact ⟨_, hbk, rfl⟩)
      (fun M' h' _ => q5)
    exact ⟨v, cv, e, _, M', rfl, H, R', q1 _ _⟩
section
variable {P : Program} {ρ : Ren}
end
def srcD (code : List D) (pl sd : Int) : D := .st [.lst code, .int .i64 pl, .int .u64 sd]
def srcR (cc : Value) (pl sd : Int) : D := .st [.raw cc, .int .i64 pl, .int .u64 sd]
def stOK (pl sd : Int) : Prop := 0 ≤ pl ∧ pl ≤ 4611686018427387904 ∧ 0 ≤ sd ∧ sd ≤ 18446744073709551615
theorem stOK_in {pl sd : Int} (h : stOK pl sd) : inR .i64 pl ∧ inR .u64 sd := by
  obtain ⟨h1, h2, h3, h4⟩ := h
  have e1 : IntKind.i64.min = -9223372036854775808 := rfl
  have e2 : IntKind.i64.max = 9223372036854775807 := rfl
  have e3 : IntKind.u64.min = 0 := rfl
  have e4 : IntKind.u64.max = 18446744073709551615 := rfl
  unfold inR
  omega
structure PEs (P : Program) (f : FuncId) (code : List D) (c : Int) (rest : List V) (Q : V → Prop) : Prop where
  fn : ∃ fn, P.funcs[f]? = some fn ∧ (fn.name == "runtime.NumGoroutine") = false ∧ fn.body.isNone = false
  run : ∀ (pl sd : Int) (w : World) (g : Nat) (t : TypeId) (cc : Value) (args : List Value), stOK pl sd → pl + c ≤ 4611686018427387904 → w.heap[g]? = some (.cells #[cc, .int .i64 pl, .int .u64 sd] t (0, 0)) → repD [g] w (.lst code) [cc] → repT w [none] [.gone] rest args →
    Calls P f (.pointer (some ⟨g, 0, none⟩) :: args).toArray w fun en w' => ∃ v cv pl' sd', Q v ∧ pl ≤ pl' ∧ pl' ≤ pl + c ∧ stOK pl' sd' ∧ en = .returned cv ∧ (∀ M h, rep w' M h v cv) ∧ w'.heap[g]? = some (.cells #[cc, .int .i64 pl', .int .u64 sd'] t (0, 0)) ∧ Kept w w' [g] [g]
theorem srcD_rep {O : List Nat} {w : World} {code : List D} {pl sd : Int} {cs : List Value} : repD O w (srcD code pl sd) cs ↔ ∃ cc, cs = [cc, .int .i64 pl, .int .u64 sd] ∧ repD O w (.lst code) [cc] ∧ inR .i64 pl ∧ inR .u64 sd := by
  constructor
  · intro H
    have H' : repDs O w [.lst code, .int .i64 pl, .int .u64 sd] cs := H
    obtain ⟨c1, c2, rfl, h1, c3, c4, rfl, ⟨rfl, h2⟩, c5, c6, rfl, ⟨rfl, h3⟩, rfl⟩ := H'
    have h1' := h1
    obtain ⟨a, cap, n, rfl, _⟩ := h1'
    exact ⟨_, rfl, h1, h2, h3⟩
  · rintro ⟨cc, rfl, h1, h2, h3⟩
    exact ⟨[cc], [.int .i64 pl, .int .u64 sd], rfl, h1, [.int .i64 pl], [.int .u64 sd], rfl, ⟨rfl, h2⟩, [.int .u64 sd], [], rfl, ⟨rfl, h3⟩, rfl⟩
theorem srcR_rep {O : List Nat} {w : World} {cc : Value} {pl sd : Int} {cs : List Value} : repD O w (srcR cc pl sd) cs ↔ cs = [cc, .int .i64 pl, .int .u64 sd] ∧ cc.oneCell' = true ∧ inR .i64 pl ∧ inR .u64 sd := by
  constructor
  · intro H
    have H' : repDs O w [.raw cc, .int .i64 pl, .int .u64 sd] cs := H
    obtain ⟨c1, c2, rfl, ⟨rfl, h1⟩, c3, c4, rfl, ⟨rfl, h2⟩, c5, c6, rfl, ⟨rfl, h3⟩, rfl⟩ := H'
    exact ⟨rfl, h1, h2, h3⟩
  · rintro ⟨rfl, h1, h2, h3⟩
    exact ⟨[cc], [.int .i64 pl, .int .u64 sd], rfl, ⟨rfl, h1⟩, [.int .i64 pl], [.int .u64 sd], rfl, ⟨rfl, h2⟩, [.int .u64 sd], [], rfl, ⟨rfl, h3⟩, rfl⟩
structure SrcB (code : List D) (h : List Blk) (D0 : Int → Int → D) : Prop where
  out : ∀ {B : Nat} {w : World} {M : MM}, MInv B w M h → ∀ {pl sd : Int} {cs : List Value}, repD M.O w (D0 pl sd) cs → ∃ cc, cs = [cc, .int .i64 pl, .int .u64 sd] ∧ repD M.O w (.lst code) [cc] ∧
    ∀ (O : List Nat) (w' : World) (pl' sd' : Int), (∀ y, y ∉ M.O → y < w.heap.size → y ∉ O ∧ w'.heap[y]? = w.heap[y]?) → stOK pl' sd' → repD O w' (D0 pl' sd') [cc, .int .i64 pl', .int .u64 sd']
theorem SrcB.d {code : List D} {h : List Blk} : SrcB code h (srcD code) where
  out {B w M} hI {pl sd cs} H := by
    obtain ⟨cc, rfl, h1, h2, h3⟩ := srcD_rep.1 H
    refine ⟨cc, rfl, h1, fun O w' pl' sd' hx hs => srcD_rep.2 ⟨cc, rfl, repD_mv hx _ _ h1, stOK_in hs⟩⟩
theorem SrcB.r {code : List D} {h : List Blk} {cc : Value} {k : Nat} {e0 : Env} {f0 : Nat → Value} (hk : h[k]? = some (.keep e0 f0)) (he : gt e0 0 = .d (.lst code)) (hf : f0 0 = cc) : SrcB code h (srcR cc) where
  out {B w M} hI {pl sd cs} H := by
    obtain ⟨rfl, h1, h2, h3⟩ := srcR_rep.1 H
    obtain ⟨m, hm⟩ := at_lt (xs := M) (k := k) (by rw [hI.len]; exact (List.getElem?_eq_some_iff.1 hk).1)
    have hkeep := hI.blk k _ _ hk hm
    have h4 : rep w M h (gt e0 0) (f0 0) := hkeep 0
    rw [he, hf] at h4
    have h5 : repD M.O w (.lst code) [cc] := by
      have := rep1_of_rep (v := .d (.lst code)) rfl h4
      exact this
    refine ⟨cc, rfl, h5, fun O w' pl' sd' hx hs => srcR_rep.2 ⟨rfl, h1, stOK_in hs⟩⟩
theorem PEs.call {P : Program} {f : FuncId} {code : List D} {c : Int} {rest : List V} {Q : V → Prop} (pe : PEs P f code c rest Q) {pl sd : Int} {D0 : Int → Int → D} {b : Nat} {e : Env} {h : List Blk} {K : V → Env → List Blk → Prop} {v0 : V}
    (hv : ∀ (w : World) (M : MM) (h : List Blk) (cs : List Value), repC w M h v0 cs → repC w M h (.d (D0 pl sd)) cs) (hs : SrcB code h D0) (hb : h[b]? = some (.box v0)) (hb0 : Nat.ble 1 b = true) (hr : plains rest = true) (hst : stOK pl sd) (hpl : pl + c ≤ 4611686018427387904)
    (H : ∀ v pl' sd', Q v → pl ≤ pl' → pl' ≤ pl + c → stOK pl' sd' → K v e (h.set b (.box (.d (D0 pl' sd'))))) : CallM P f (.pB b [] 0 :: rest) e h K where
  fn := pe.fn
  run B X N M a w args R hargs := by
    obtain ⟨c0, args, rfl, h1, h2⟩ := hargs
    have h2' := plains_rep (w' := w) (M' := [none]) (h' := [.gone]) rest args hr h2
    have hb1 : 1 ≤ b := Nat.le_of_ble_eq_true hb0
    obtain ⟨g, F, m1, rfl⟩ := rep_pB.1 (rep_of_rep1 h1)
    obtain ⟨rfl, arr, t, hg, hcs⟩ : F = [] ∧ ∃ arr t, w.heap[g]? = some (.cells arr t (0, 0)) ∧ repC w M h v0 arr.toList := R.inv.blk b _ _ hb m1
    obtain ⟨cc, ha, k1, k2⟩ := hs.out R.inv (hv _ _ _ _ hcs)
    obtain rfl : arr = #[cc, .int .i64 pl, .int .u64 sd] := by
      apply Array.toList_inj.1
      exact ha
    have hgO : g ∈ M.O := mem_O m1 (by simp [mO])
    have kg : repD [g] w (.lst code) [cc] := by
      refine repD_mv (fun y hy _ => ⟨fun q => ?_, rfl⟩) _ _ k1
      have hyg : y = g := by simpa using q
      exact hy (hyg ▸ hgO)
    refine (pe.run pl sd w g t cc args hst hpl hg kg h2').mono ?_
    rintro en w' ⟨v, cv, pl', sd', qv, p1, p2, p3, rfl, q1, q4, q2⟩
    have hxB : Ext B w' := by
      have hlo := R.inv.lo b _ _ hb m1 rfl
      refine Below.trans R.ext ⟨q2.os, q2.tape, q2.output, q2.size, fun k hk => q2.ch k (Nat.lt_of_lt_of_le hk R.base) (fun hm => ?_)⟩
      have := hlo k (by simpa [mO] using hm)
      omega
    obtain ⟨M', R', _, _⟩ := R.reset (w' := w') hxB m1 (by omega) hb (.inl rfl) [] [] (by simp) (by simp) (by simp) (by simp) (m' := some (g, [])) q2.nd
      (fun x hx => .inl hx) q2.hi q2.size (fun x hx hxm => q2.ch x hx hxm) (k' := .box (.d (D0 pl' sd'))) rfl
      (fun _ g1 F1 e1 => by
        cases e1
        refine ⟨⟨[], rfl⟩, ?_, fun arr1 t1 hg1 => ?_⟩
        · simp only [nOf, hb, List.getElem?_set_self (List.getElem?_eq_some_iff.1 hb).1]
        · rw [hg] at hg1
          cases hg1
          exact ⟨_, q4, rfl⟩)
      (fun M' h' hx => ⟨rfl, _, t, q4, k2 _ _ _ _ hx p3⟩)
    exact ⟨v, cv, e, _, M', rfl, H v pl' sd' qv p1 p2 p3, R', q1 _ _⟩
section
variable {P : Program} {f : FuncId} {code : List D} {c : Int} {rest : List V} {Q : V → Prop} {pl sd : Int} {b : Nat} {e : Env} {h : List Blk} {K : V → Env → List Blk → Prop}
end
def eQ (tt : TT) (rs : List ResultVar) (c pl : Int) (Q : V → Prop) (cc : Value) (G : Blk) : Post
  | .normal => fun e h => retV tt rs e h fun va => Q va ∧ va.resOK = true ∧ ∃ pl' sd' r, pl ≤ pl' ∧ pl' ≤ pl + c ∧ stOK pl' sd' ∧ h = .gone :: G :: .box (.d (srcR cc pl' sd')) :: r
  | .ret => fun e h => retV tt rs e h fun va => Q va ∧ va.resOK = true ∧ ∃ pl' sd' r, pl ≤ pl' ∧ pl' ≤ pl + c ∧ stOK pl' sd' ∧ h = .gone :: G :: .box (.d (srcR cc pl' sd')) :: r
  | .exit _ => fun _ _ => False
theorem pe_intro {P : Program} {tt : TT} (hT : TOk P tt) (hm : P.follows .mixedOrders = true) {f : FuncId} {fn : Func} {cd : Code} (hf : P.funcs[f]? = some fn) (hb : fn.body = some cd) (hname : (fn.name == "runtime.NumGoroutine") = false)
    (hN : codeB fn.ntmps cd = true) {code : List D} {c : Int} {rest : List V} (hA : Nat.ble (rest.length + 1) fn.ntmps = true) {Q : V → Prop} (hrp : plains rest = true)
    (H : ∀ (k : Nat → Option Obj) (s g : Nat) (t : TypeId) (cc : Value) (pl sd : Int), wfVs rest → stOK pl sd → pl + c ≤ 4611686018427387904 →
      wpC P tt cd (eQ tt fn.results.toList c pl Q cc (.gho k s g 4 t)) (argE 0 (.pB 2 [] 0 :: rest)) [.gone, .gho k s g 4 t, .box (.d (srcR cc pl sd)), .keep [(0, .d (.lst code))] (fun _ => cc)]) : PEs P f code c rest Q where
  fn := ⟨fn, hf, hname, by rw [hb]; rfl⟩
  run := fun pl sd w g t cc args hst hpl hg hcode hargs => by
    have hO : MM.O [none, none, some (g, []), none] = [g] := by simp [MM.O, mO]
    have hglt := lt_of_heap hg
    let fr : Nat → Option Obj := fun b => if b ∈ [g] then none else w.heap[b]?
    have hfr : ∀ b o, fr b = some o → b ∉ [g] ∧ w.heap[b]? = some o := fun b o hc => by
      simp only [fr] at hc
      split at hc
      · cases hc
      · rename_i hm'; exact ⟨hm', hc⟩
    have hlenT : ∀ (vs : List V) (cs : List Value), repT w [none] [.gone] vs cs → cs.length = vs.length := by
      intro vs
      induction vs with
      | nil => intro cs H; cases H; rfl
      | cons v vs ih => intro cs H; obtain ⟨c, cs', rfl, _, h2⟩ := H; simp [ih _ h2]
    have hl := hlenT rest args hargs
    have hA' := Nat.le_of_ble_eq_true hA
    have hcc1 : cc.oneCell' = true := repD_one (.lst code) [cc] hcode cc (by simp)
    have hargs2 : repT w [none, none, some (g, []), none] [.gone, .gho fr w.heap.size g 4 t, .box (.d (srcR cc pl sd)), .keep [(0, .d (.lst code))] (fun _ => cc)] (.pB 2 [] 0 :: rest) (.pointer (some ⟨g, 0, none⟩) :: args) := by
      refine ⟨_, args, rfl, rep1_of_rep rfl (rep_pB.2 ⟨g, [], rfl, rfl⟩), plains_rep rest args hrp hargs⟩
    have R : Rep { w with heap := #[] } [] fn.ntmps [none, none, some (g, []), none] (argE 0 (.pB 2 [] 0 :: rest)) [.gone, .gho fr w.heap.size g 4 t, .box (.d (srcR cc pl sd)), .keep [(0, .d (.lst code))] (fun _ => cc)]
        { tmps := (.pointer (some ⟨g, 0, none⟩) :: args).toArray ++ Array.replicate (fn.ntmps - (Value.pointer (some ⟨g, 0, none⟩) :: args).toArray.size) Go.undef, defers := [] } w := {
      ext := ⟨rfl, rfl, rfl, Nat.zero_le _, fun k hk => by simp at hk⟩
      inv := ⟨rfl, fun b k m hk hm => by
          match b, hk, hm with
          | 0, hk, hm => simp at hk; subst hk; trivial
          | 1, hk, hm =>
            simp at hk hm
            subst hk
            exact ⟨fun b o hc => by rw [hO]; exact hfr b o hc, Nat.le_refl _, [], rfl, .inr ⟨_, hg, rfl⟩⟩
          | 2, hk, hm =>
            simp at hk hm
            subst hk
            subst hm
            exact ⟨rfl, _, t, hg, srcR_rep.2 ⟨rfl, hcc1, stOK_in hst⟩⟩
          | 3, hk, hm =>
            simp at hk hm
            subst hk
            intro k
            cases k with
            | zero =>
              refine rep_of_rep1 ?_
              show repD (MM.O [none, none, some (g, []), none]) w (.lst code) [cc]
              rw [hO]; exact hcode
            | succ k => trivial
          | b + 4, hk, hm => simp at hk, by rw [hO]; simp, fun _ _ _ _ _ _ g' _ => Nat.zero_le _, by
          rw [hO]
          intro x hx
          have : x = g := by simpa using hx
          subst this
          exact hglt⟩
      env := fun k => by
        rw [argE_get, if_pos (Nat.zero_le _), Nat.sub_zero]
        split
        · rename_i v hv
          obtain ⟨cc', q1, q2⟩ := repT_get _ _ k v hargs2 hv
          have hk : k < (Value.pointer (some ⟨g, 0, none⟩) :: args).length := (List.getElem?_eq_some_iff.1 q1).1
          have : ((.pointer (some ⟨g, 0, none⟩) :: args).toArray ++ Array.replicate (fn.ntmps - (Value.pointer (some ⟨g, 0, none⟩) :: args).toArray.size) Go.undef).getD k Go.undef = cc' := by
            rw [Array.getD_eq_getD_getElem?, Array.getElem?_append_left (by simpa using hk)]
            simp only [List.getElem?_toArray, q1, Option.getD_some]
          dsimp only
          rw [this]
          exact rep_of_rep1 q2
        · trivial
      sz := by simp [hl]; omega
      df := rfl
      fr := rfl
      fh := rfl }
    have hwf : wfVs rest := repT_wf _ _ hargs
    refine calls_of_wp hf hb (wp_mono (code_sound hT hm cd _ _ _ _ _ _ hN (H fr w.heap.size g t cc pl sd hwf hst hpl) R) fun x a' w' hx => ?_)
    have fin : ∀ (e : Env) (h : List Blk) (M : MM), retV tt fn.results.toList e h (fun va => Q va ∧ va.resOK = true ∧ ∃ pl' sd' r, pl ≤ pl' ∧ pl' ≤ pl + c ∧ stOK pl' sd' ∧ h = .gone :: .gho fr w.heap.size g 4 t :: .box (.d (srcR cc pl' sd')) :: r) → Rep { w with heap := #[] } [] fn.ntmps M e h a' w' →
        a'.defers = [] ∧ ∃ cv, (results fn a'.tmps).run P w' = .ok cv w' ∧ ∃ v cv' pl' sd', Q v ∧ pl ≤ pl' ∧ pl' ≤ pl + c ∧ stOK pl' sd' ∧ Ending.returned cv = .returned cv' ∧ (∀ M h, rep w' M h v cv') ∧ w'.heap[g]? = some (.cells #[cc, .int .i64 pl', .int .u64 sd'] t (0, 0)) ∧ Kept w w' [g] [g] := by
      intro e h M hr R'
      have post : ∀ {va : V} {cv : Value}, rep w' M h va cv → (Q va ∧ va.resOK = true ∧ ∃ pl' sd' r, pl ≤ pl' ∧ pl' ≤ pl + c ∧ stOK pl' sd' ∧ h = .gone :: .gho fr w.heap.size g 4 t :: .box (.d (srcR cc pl' sd')) :: r) → ∃ v cv' pl' sd', Q v ∧ pl ≤ pl' ∧ pl' ≤ pl + c ∧ stOK pl' sd' ∧ Ending.returned cv = .returned cv' ∧ (∀ M h, rep w' M h v cv') ∧ w'.heap[g]? = some (.cells #[cc, .int .i64 pl', .int .u64 sd'] t (0, 0)) ∧ Kept w w' [g] [g] := by
        rintro va cv hva ⟨hq, hv, pl', sd', r, p1, p2, p3, rfl⟩
        obtain ⟨m1, hm1⟩ := at_lt (xs := M) (k := 1) (by rw [R'.inv.len]; simp)
        obtain ⟨q1, q2, F', q3, q45⟩ : (∀ b o, fr b = some o → b ∉ M.O ∧ w'.heap[b]? = some o) ∧ w.heap.size ≤ w'.heap.size ∧ ∃ F', M[2]? = some (some (g, F')) ∧ (4 = 0 ∨ ∃ arr', w'.heap[g]? = some (.cells arr' t (0, 0)) ∧ arr'.size + 1 = 4) := R'.inv.blk 1 _ _ rfl hm1
        obtain ⟨arr', q4, q5⟩ : ∃ arr', w'.heap[g]? = some (.cells arr' t (0, 0)) ∧ arr'.size + 1 = 4 := by
          rcases q45 with q | q
          · cases q
          · exact q
        obtain ⟨rfl, arr2, t2, z1, z2⟩ : F' = [] ∧ ∃ arr t, w'.heap[g]? = some (.cells arr t (0, 0)) ∧ repD M.O w' (srcR cc pl' sd') arr.toList := R'.inv.blk 2 _ _ rfl q3
        rw [q4] at z1
        cases z1
        obtain ⟨z3, _⟩ := srcR_rep.1 z2
        obtain rfl : arr' = #[cc, .int .i64 pl', .int .u64 sd'] := Array.toList_inj.1 z3
        have back : ∀ x, x < w.heap.size → x ∉ [g] → x ∉ M.O ∧ w'.heap[x]? = w.heap[x]? := fun x hx hxm => by
          have e1 : fr x = w.heap[x]? := by simp only [fr]; rw [if_neg hxm]
          have e2 : w.heap[x]? = some w.heap[x] := Array.getElem?_eq_getElem hx
          obtain ⟨u1, u2⟩ := q1 x _ (e1.trans e2)
          exact ⟨u1, by rw [u2, e2]⟩
        exact ⟨va, cv, pl', sd', hq, p1, p2, p3, rfl, fun M h => res_rep hv hva, q4, ⟨R'.ext.os, R'.ext.tape, R'.ext.output, q2, fun x hx hxm => (back x hx hxm).2, by simp, fun x hx => .inl hx, fun x hx => R'.inv.hi x (mem_O q3 hx)⟩⟩
      obtain ⟨vs, cvs, h1, h2, h3, h4⟩ := res_sound hT R' _ _ hr
      refine ⟨R'.df, _, run_results h4, ?_⟩
      match vs, cvs, h2 with
      | [va], [cv], _ =>
        obtain ⟨c', k1, k2⟩ := h3 0 va rfl
        cases k1
        exact post k2 h1
      | [], [], _ => exact post (va := .tup []) (cv := .tuple #[]) ⟨[], rfl, rfl⟩ h1
      | va :: vb :: vs, ca :: cb :: cvs, h2 =>
        exfalso
        dsimp only at h1
        cases hok : okTs (va :: vb :: vs) with
        | false => rw [hok] at h1; exact h1.elim
        | true =>
          rw [hok] at h1
          simp only [cond_true] at h1
          have := h1.2.1
          cases this
    cases x with
    | normal => obtain ⟨e, h, M, k1, k2⟩ := hx; exact fin e h M k1 k2
    | ret => obtain ⟨e, h, M, k1, k2⟩ := hx; exact fin e h M k1 k2
    | exit id => obtain ⟨e, h, M, k1, k2⟩ := hx; exact k1.elim
    | goto l => exact hx.elim
    | panic => exact hx.elim
    | outgrown => exact hx.elim
theorem clr_ {P : Program} {f : FuncId} {code : List D} {c : Int} {rest : List V} {Q : V → Prop} {pl sd : Int} {b : Nat} {e : Env} {h : List Blk} {K : V → Env → List Blk → Prop} {cc : Value} {e0 : Env} {f0 : Nat → Value}
    (pe : PEs P f code c rest Q) (hst : stOK pl sd) (hpl : pl + c ≤ 4611686018427387904) {G : V → Int → Int → Prop} (H : ∀ v pl' sd', Q v → pl ≤ pl' → pl' ≤ pl + c → stOK pl' sd' → G v pl' sd') (hb : h[b]? = some (.box (.d (srcR cc pl sd))) := by rfl)
    (hk3 : h[3]? = some (.keep e0 f0) := by rfl) (he : gt e0 0 = .d (.lst code) := by rfl) (hf : f0 0 = cc := by rfl) (hb0 : Nat.ble 1 b = true := by rfl) (hr : plains rest = true := by rfl)
    (hk : ∀ v pl' sd', G v pl' sd' → K v e (h.set b (.box (.d (srcR cc pl' sd')))) := by (intro v pl' sd' H; (conv => whnf); exact H)) : CallW P false f (.pB b [] 0 :: rest) e h K :=
  ⟨.inr ⟨rfl, pe.call (fun _ _ _ _ H => H) (SrcB.r hk3 he hf) hb hb0 hr hst hpl (fun v pl' sd' q1 q2 q3 q4 => hk _ _ _ (H v pl' sd' q1 q2 q3 q4))⟩⟩
set_option maxHeartbeats 4000000 in
set_option maxRecDepth 1000000 in
theorem next_p (n g cap : Nat) (pl sd : Int) (t : TypeId) (a : Option Addr) (w : World) (hg : w.heap[g]? = some (.cells #[.slice a n cap, .int .i64 pl, .int .u64 sd] t (0, 0))) (hpl0 : 0 ≤ pl) (hpl : pl < 4611686018427387904) (hsd0 : 0 ≤ sd) (hsd : sd ≤ 18446744073709551615)
   (b o : Nat) (c : Nat) (hcc : c < 256) (hk : pl < n → a = some ⟨b, o, none⟩ ∧ w.cell? ⟨b, o + pl.toNat, none⟩ = some (.int .u8 c)) :
  Calls Tryd.prog 58 #[.pointer (some ⟨g, 0, none⟩)] w (fun e w' => ∃ v sd' : Int, e = .returned (.int .i64 v) ∧ 0 ≤ v ∧ v < 256 ∧ 0 ≤ sd' ∧ sd' ≤ 18446744073709551615 ∧ w'.heap = ((w.setCell ⟨g, 1, none⟩ (.int .i64 (pl + 1))).setCell ⟨g, 2, none⟩ (.int .u64 sd')).heap ∧ w'.os = w.os ∧ w'.tape = w.tape ∧ w'.output = w.output) := by
  have hc0 : w.cell? ⟨g, 0, none⟩ = some (.slice a n cap) := by simp [World.cell?, hg]
  have hc1 : w.cell? ⟨g, 1, none⟩ = some (.int .i64 pl) := by simp [World.cell?, hg]
  have hc2 : w.cell? ⟨g, 2, none⟩ = some (.int .u64 sd) := by simp [World.cell?, hg]
  have hf1 : w.frozen? ⟨g, 1, none⟩ = false := by simp [World.frozen?, hg]
  have hw1 : IntKind.i64.wrap (pl + 1) = pl + 1 := by rw [IntKind.wrap_i64]; omega
  have mixed : Tryd.prog.follows .mixedOrders = true := by kernel_rfl
  have st1 := setCell_heap0 hg 1 (.int .i64 (pl + 1))
  have hd0 : (w.setCell ⟨g, 1, none⟩ (.int .i64 (pl + 1))).cell? ⟨g, 0, none⟩ = some (.slice a n cap) := by simp only [World.cell?, st1]; rfl
  have hd1 : (w.setCell ⟨g, 1, none⟩ (.int .i64 (pl + 1))).cell? ⟨g, 1, none⟩ = some (.int .i64 (pl + 1)) := by simp only [World.cell?, st1]; rfl
  have hd2 : (w.setCell ⟨g, 1, none⟩ (.int .i64 (pl + 1))).cell? ⟨g, 2, none⟩ = some (.int .u64 sd) := by simp only [World.cell?, st1]; rfl
  have he2 : (w.setCell ⟨g, 1, none⟩ (.int .i64 (pl + 1))).frozen? ⟨g, 2, none⟩ = false := by simp only [World.frozen?, st1]; rfl
  have hk0 : ∀ s, ((w.setCell ⟨g, 1, none⟩ (.int .i64 (pl + 1))).setCell ⟨g, 2, none⟩ (.int .u64 s)).cell? ⟨g, 0, none⟩ = some (.slice a n cap) := fun s => by simp only [World.cell?, setCell_heap0 st1]; rfl
  have hk1 : ∀ s, ((w.setCell ⟨g, 1, none⟩ (.int .i64 (pl + 1))).setCell ⟨g, 2, none⟩ (.int .u64 s)).cell? ⟨g, 1, none⟩ = some (.int .i64 (pl + 1)) := fun s => by simp only [World.cell?, setCell_heap0 st1]; rfl
  have hk2 : ∀ s, ((w.setCell ⟨g, 1, none⟩ (.int .i64 (pl + 1))).setCell ⟨g, 2, none⟩ (.int .u64 s)).cell? ⟨g, 2, none⟩ = some (.int .u64 s) := fun s => by simp only [World.cell?, setCell_heap0 st1]; rfl
  have hwr : ∀ x, 0 ≤ IntKind.u64.wrap x ∧ IntKind.u64.wrap x ≤ 18446744073709551615 := fun x => by rw [IntKind.wrap_u64]; omega
  have hand : ∀ x : Int, 0 ≤ x → x < 18446744073709551616 → 0 ≤ wrap64 (bits .and .u64 x 255) ∧ wrap64 (bits .and .u64 x 255) < 256 := fun x h1 h2 => by
    have e := bits_and_u64_nat x.toNat 255 (by omega) (by omega)
    rw [show ((x.toNat : Nat) : Int) = x by omega, show ((255 : Nat) : Int) = 255 from rfl, Nat.and_two_pow_sub_one_eq_mod x.toNat 8] at e
    rw [e]
    unfold wrap64
    omega
  by_cases hlt : pl < n
  · obtain ⟨rfl, hcb⟩ := hk hlt
    have hle : pl + 1 ≤ n := by omega
    have hs := hwr (IntKind.u64.wrap (IntKind.u64.wrap (sd * 6364136223846793005) + ↑c) + 1442695040888963407)
    have q0 := hk0 (IntKind.u64.wrap (IntKind.u64.wrap (IntKind.u64.wrap (sd * 6364136223846793005) + ↑c) + 1442695040888963407))
    have q1 := hk1 (IntKind.u64.wrap (IntKind.u64.wrap (IntKind.u64.wrap (sd * 6364136223846793005) + ↑c) + 1442695040888963407))
    have q2 := hk2 (IntKind.u64.wrap (IntKind.u64.wrap (IntKind.u64.wrap (sd * 6364136223846793005) + ↑c) + 1442695040888963407))
    go_enter Tryd.func58, Tryd.ntmps58
    go_wp2
    go_region_o
    go_wp2
    go_region_o
    go_wp2
    go_region_o
    go_wp2
    go_ret
    exact ⟨_, _, rfl, by omega, by omega, hs.1, hs.2, rfl, rfl, rfl, rfl⟩
  · have hle : ¬ pl + 1 ≤ n := by omega
    have hs := hwr (IntKind.u64.wrap (IntKind.u64.wrap (sd * 6364136223846793005)) + 1442695040888963407)
    have q0 := hk0 (IntKind.u64.wrap (IntKind.u64.wrap (IntKind.u64.wrap (sd * 6364136223846793005)) + 1442695040888963407))
    have q1 := hk1 (IntKind.u64.wrap (IntKind.u64.wrap (IntKind.u64.wrap (sd * 6364136223846793005)) + 1442695040888963407))
    have q2 := hk2 (IntKind.u64.wrap (IntKind.u64.wrap (IntKind.u64.wrap (sd * 6364136223846793005)) + 1442695040888963407))
    go_enter Tryd.func58, Tryd.ntmps58
    go_wp2
    go_region_o
    go_wp2
    go_region_o
    go_wp2
    go_ret
    have hb := hand (IntKind.u64.wrap (IntKind.u64.wrap (IntKind.u64.wrap (sd * 6364136223846793005)) + 1442695040888963407) / 1099511627776) (by omega) (by omega)
    exact ⟨_, _, rfl, hb.1, hb.2, hs.1, hs.2, rfl, rfl, rfl, rfl⟩
theorem next_e (code : List UInt8) : PEs Tryd.prog 58 (code.map bD) 1 [] (fun v => ∃ x, v = .d (.int .i64 x) ∧ 0 ≤ x ∧ x < 256) where
  fn := ⟨_, Tryd.func58, rfl, rfl⟩
  run pl sd w g t cc args hst hpl hg hcc hargs := by
    cases (show args = [] from hargs)
    obtain ⟨a, cap, n, hcv, hc1, hc2, hc3, hel⟩ := hcc
    obtain rfl : cc = .slice a (code.map bD).length cap := by simpa using hcv
    obtain ⟨s1, s2, s3, s4⟩ := hst
    obtain ⟨b, o, c, hc, hk⟩ : ∃ b o c, c < 256 ∧ (pl < ((code.map bD).length : Nat) → a = some ⟨b, o, none⟩ ∧ w.cell? ⟨b, o + pl.toNat, none⟩ = some (.int .u8 (c : Nat))) := by
      by_cases hlt : pl < ((code.map bD).length : Nat)
      · obtain ⟨x, hx⟩ := at_lt' (xs := code) (k := pl.toNat) (by rw [List.length_map] at hlt; omega)
        obtain ⟨b, o, ces, q1, q2, q3, q4, q5, q6⟩ := (repDe_get _ 0).1 hel pl.toNat (bD x) (by rw [List.getElem?_map, hx]; rfl)
        obtain ⟨rfl, q7⟩ := q6
        have hn : n = 1 := q5.symm
        subst hn
        have := q4 0 _ rfl
        rw [Nat.zero_add, Nat.mul_one, Nat.add_zero] at this
        exact ⟨b, o, x.toNat, x.toNat_lt, fun _ => ⟨q1, this⟩⟩
      · exact ⟨0, 0, 0, by omega, fun h => absurd h hlt⟩
    refine (next_p _ g cap pl sd t a w hg s1 (by omega) s3 s4 b o c hc hk).mono ?_
    rintro en w' ⟨v, sd', rfl, v1, v2, d1, d2, hh, h1, h2, h3⟩
    have st1 := setCell_heap0 hg 1 (.int .i64 (pl + 1))
    have st2 := setCell_heap0 st1 2 (.int .u64 sd')
    have ho : ∀ x, x ≠ g → w'.heap[x]? = w.heap[x]? := fun x hx => by rw [hh, setCell_other0 hx, setCell_other0 hx]
    have hsz : w'.heap.size = w.heap.size := by rw [hh, setCell_size0, setCell_size0]
    refine ⟨_, _, pl + 1, sd', ⟨v, rfl, v1, v2⟩, by omega, by omega, ⟨by omega, by omega, d1, d2⟩, rfl, fun M h => ?_, ?_, ⟨h1, h2, h3, by omega, fun x _ hx => ho x (by simpa using hx), by simp, fun x hx => .inl hx, fun x hx => ?_⟩⟩
    · refine rep_of_rep1 (v := .d (.int .i64 v)) ?_
      exact ⟨rfl, by have e1 : IntKind.i64.min = -9223372036854775808 := rfl; have e2 : IntKind.i64.max = 9223372036854775807 := rfl; unfold inR; omega⟩
    · rw [hh, st2]; rfl
    · have : x = g := by simpa using hx
      subst this
      rw [hsz]; exact lt_of_heap hg
def PkQ (n : Int) (v : V) : Prop := ∃ x, v = .d (.int .i64 x) ∧ 0 ≤ x ∧ (x < n ∨ x = 0)
theorem pick_e (code : List UInt8) (n : Int) : PEs Tryd.prog 39 (code.map bD) 2 [.d (.int .i64 n)] (PkQ n) := by
  refine pe_intro ttOk (by kernel_rfl) Tryd.func39 rfl (by kernel_rfl) (by kernel_rfl) (by rfl) (by rfl) (fun k s g t cc pl sd hw hst hpl => ?_)
  have c0 := next_e code
  (conv => whnf)
  (repeat (refine stg_ ?_))
  (refine br_ (fun h1 => ?_) (fun h1 => ?_))
  · (repeat (refine stg_ ?_))
    (refine ⟨⟨_, rfl, by omega, by omega⟩, rfl, _, _, _, ?_, ?_, ?_, rfl⟩ <;> first | omega | assumption)
  · (repeat (refine stg_ ?_))
    (refine clr_ c0 (by assumption) (by omega) ?_; rintro _ pl1 sd1 ⟨x, rfl, hx1, hx2⟩ hl1 hl2 hs1; (conv => whnf))
    (repeat (refine stg_ ?_))
    (refine br_ (fun h2 => ?_) (fun h2 => ?_))
    · (repeat (refine stg_ ?_))
      (refine clr_ c0 (by assumption) (by omega) ?_; rintro _ pl2 sd2 ⟨y, rfl, hy1, hy2⟩ hl3 hl4 hs2; (conv => whnf))
      (repeat (refine stg_ ?_))
      have ht : (x * 256 + y).tmod n = (x * 256 + y) % n := Int.tmod_eq_emod_of_nonneg (by omega)
      have hm := Int.emod_nonneg (x * 256 + y) (b := n) (by omega)
      have hm2 := Int.emod_lt_of_pos (x * 256 + y) (b := n) (by omega)
      (refine ⟨⟨_, rfl, by omega, by omega⟩, rfl, _, _, _, ?_, ?_, ?_, rfl⟩ <;> first | omega | assumption)
    · (repeat (refine stg_ ?_))
      have ht : x.tmod n = x % n := Int.tmod_eq_emod_of_nonneg (by omega)
      have hm := Int.emod_nonneg x (b := n) (by omega)
      have hm2 := Int.emod_lt_of_pos x (b := n) (by omega)
      (refine ⟨⟨_, rfl, by omega, by omega⟩, rfl, _, _, _, ?_, ?_, ?_, rfl⟩ <;> first | omega | assumption)
theorem one_e (code : List UInt8) (n : Int) : PEs Tryd.prog 41 (code.map bD) 2 [.d (.int .i64 n)] (fun v => ∃ b, v = .d (.bool b)) := by
  refine pe_intro ttOk (by kernel_rfl) Tryd.func41 rfl (by kernel_rfl) (by kernel_rfl) (by rfl) (by rfl) (fun k s g t cc pl sd hw hst hpl => ?_)
  have c0 := pick_e code n
  (conv => whnf)
  (repeat (refine stg_ ?_))
  (refine clr_ c0 (by assumption) (by omega) ?_; rintro _ pl1 sd1 ⟨x, rfl, hx1, hx2⟩ hl1 hl2 hs1; (conv => whnf))
  (repeat (refine stg_ ?_))
  (refine ⟨⟨_, rfl⟩, rfl, _, _, _, ?_, ?_, ?_, rfl⟩ <;> first | omega | assumption)
theorem Weak.box {e : Env} {h : List Blk} (b : Nat) {v v' : V} (hb : h[b]? = some (.box v)) (hb0 : Nat.ble 1 b = true) (hv : ∀ (w : World) (M : MM) (h : List Blk) (cs : List Value), repC w M h v cs → repC w M h v' cs) : Weak e h e (h.set b (.box v')) := fun B X N M a w R => by
  have hlt : b < h.length := (List.getElem?_eq_some_iff.1 hb).1
  have hnof : ∀ c, nOf (h.set b (.box v')) c = nOf h c := fun c => by
    unfold nOf
    by_cases hc : b = c
    · subst hc
      rw [List.getElem?_set_self hlt, hb]
    · rw [List.getElem?_set_ne hc]
  have mv' : Mv (fun _ => True) w M h w M (h.set b (.box v')) := {
    ext := fun b hb _ => ⟨hb, rfl⟩
    ids := fun b g F _ hb => ⟨F, hb⟩
    row := fun b g F arr t _ _ hg => ⟨arr, hg, rfl⟩
    nof := fun b g F _ _ => hnof b
    sz := Nat.le_refl _ }
  have hget : ∀ (c : Nat) (k : Blk), (h.set b (.box v'))[c]? = some k → (c = b ∧ k = .box v') ∨ h[c]? = some k := fun c k hk => by
    by_cases hc : b = c
    · subst hc
      rw [List.getElem?_set_self hlt] at hk
      cases hk
      exact .inl ⟨rfl, rfl⟩
    · rw [List.getElem?_set_ne hc] at hk
      exact .inr hk
  have hI' : MInv B.heap.size w M (h.set b (.box v')) := {
    len := by simp [R.inv.len]
    blk := fun c k m hk hm => by
      rcases hget c k hk with ⟨rfl, rfl⟩ | hk3
      · have h1 := R.inv.blk c _ m hb hm
        cases m with
        | none => exact h1
        | some gF =>
          obtain ⟨g, F⟩ := gF
          obtain ⟨h2, arr, t, h3, h4⟩ := h1
          exact ⟨h2, arr, t, h3, repC_mv mv' _ _ (V.inS_all _) (hv _ _ _ _ h4)⟩
      · exact BRep_mv mv' (by cases k <;> first | trivial | exact V.inS_all _ | exact inSE_all _) (fun _ _ => rfl) (R.inv.blk c k m hk3 hm)
    nd := R.inv.nd
    lo := fun c k m hk hm hl => by
      rcases hget c k hk with ⟨rfl, rfl⟩ | hk3
      · exact R.inv.lo c _ m hb hm rfl
      · exact R.inv.lo c k m hk3 hm hl
    hi := R.inv.hi }
  refine ⟨M, R.ext, hI', fun k => rep_mv mv' _ _ (V.inS_all _) (R.env k), R.sz, R.df, R.fr, ?_⟩
  rw [List.getElem?_set_ne (by intro e0; subst e0; cases hb0)]
  exact R.fh
def lst (n m : Nat) : Array Bool := ((List.range n).map fun i => m.testBit i).toArray
structure PE where
  q : Bool
  dep : Nat
  bad : Nat
section
variable {l : List Oper}
end
structure PX (P : Program) (f : FuncId) (As : List V) (Q : V → List Blk → Prop) : Prop where
  fn : ∃ fn, P.funcs[f]? = some fn ∧ (fn.name == "runtime.NumGoroutine") = false ∧ fn.body.isNone = false
  run : ∀ (w : World) (X : List Nat) (args : List Value), X.Nodup → (∀ b ∈ X, b < w.heap.size) → repT w [mX X] [.gone] As args →
    Calls P f args.toArray w fun e w' => ∃ v bs cv M', Q v bs ∧ e = .returned cv ∧ Ext w w' ∧ MInv w.heap.size w' (mX X :: M') (.gone :: bs) ∧ rep w' (mX X :: M') (.gone :: bs) v cv
theorem PX.of {P : Program} {f : FuncId} {As : List V} {v : V} {bs : List Blk} (pc : PC P f As v bs) {Q : V → List Blk → Prop} (hq : Q v bs) : PX P f As Q :=
  ⟨pc.fn, fun w X args h1 h2 h3 => (pc.run w X args h1 h2 h3).mono fun _ _ ⟨cv, M', k⟩ => ⟨v, bs, cv, M', hq, k⟩⟩
theorem PX.callE {P : Program} {f : FuncId} {As : List V} {Q : V → List Blk → Prop} (px : PX P f As Q) {vs : List V} {e : Env} {h : List Blk} {K : V → Env → List Blk → Prop} (hb : borVs h vs As) (h0 : Nat.ble 1 h.length = true)
    (hf : ∀ v bs, Q v bs → (v.fit (!V.exts vs) && fitBs (!V.exts vs) bs) = true) (hK : ∀ v bs, Q v bs → K (v.shift (h.length - 1)) e (h ++ shiftBs (h.length - 1) bs)) : CallE P f vs e h K := by
  refine ⟨px.fn, fun B X0 N M a w args R hargs => ?_⟩
  have h0 : 1 ≤ h.length := Nat.le_of_ble_eq_true h0
  have ⟨X, hX, hnd, hhi, S⟩ : ∃ X : List Nat, (X = [] ∨ V.exts vs = true ∧ X = M.O) ∧ X.Nodup ∧ (∀ b ∈ X, b < w.heap.size) ∧ Sh (!V.exts vs) X M h := by
    cases he : V.exts vs with
    | true => exact ⟨M.O, .inr ⟨rfl, rfl⟩, R.inv.nd, R.inv.hi, R.inv.len, h0, .inr rfl⟩
    | false => exact ⟨[], .inl rfl, by simp, by simp, R.inv.len, h0, .inl rfl⟩
  refine (px.run w X args hnd hhi (borT_sound R.inv vs args As hargs hX hb)).mono ?_
  rintro en w' ⟨v, bs, cv, M', hq, rfl, hx, hI, hr⟩
  have hf := hf v bs hq
  simp only [Bool.and_eq_true] at hf
  obtain ⟨hf1, hf2⟩ := hf
  have hlen : M'.length = bs.length := by have := hI.len; simpa using this
  have hlo : ∀ g ∈ (MM.O M'), w.heap.size ≤ g := fun g hg => by
    obtain ⟨b, m, hm, hgm⟩ := mem_O_get hg
    obtain ⟨k, hk⟩ := at_lt (xs := bs) (k := b) (by rw [← hlen]; exact (List.getElem?_eq_some_iff.1 hm).1)
    exact hI.lo (b + 1) k m (by simpa using hk) (by simpa using hm) (fit_live (fitBs_get bs b k hf2 hk)) g hgm
  have hnd' : (MM.O M').Nodup := by
    have := hI.nd
    rw [O_cons] at this
    exact (List.nodup_append.1 this).2.1
  have hhi' : ∀ g ∈ (MM.O M'), g < w'.heap.size := fun g hg => hI.hi g (by rw [O_cons]; exact List.mem_append_right _ hg)
  have mv : Mv (fun _ => True) w M h w' (M ++ M') (h ++ shiftBs (h.length - 1) bs) := push_mv R.inv.len hx R.inv.hi hlo
  refine ⟨_, cv, _, M ++ M', rfl, hK v bs hq, hx, R.step (R.ext.trans hx) (R.inv.push R.base hx (by rw [shiftBs_len]; exact hlen) hnd' hlo hhi' ?_) mv (fr_push R.fr _) (fr_push R.fh _), rep_sh S hf1 hr⟩
  intro b k m hk hm
  rw [shiftBs_get] at hk
  obtain ⟨k0, hk0, rfl⟩ := Option.map_eq_some_iff.1 hk
  exact BRep_sh S (fitBs_get bs b k0 hf2 hk0) (hI.blk (b + 1) k0 m (by simpa using hk0) (by simpa using hm))
def xQ (tt : TT) (rs : List ResultVar) (Q : V → List Blk → Prop) : Post
  | .normal => fun e h => retV tt rs e h fun va => ∃ v bs, Q v bs ∧ RetOK h va v bs
  | .ret => fun e h => retV tt rs e h fun va => ∃ v bs, Q v bs ∧ RetOK h va v bs
  | .exit _ => fun _ _ => False
theorem px_intro {P : Program} {tt : TT} (hT : TOk P tt) (hm : P.follows .mixedOrders = true) {f : FuncId} {fn : Func} {c : Code} (hf : P.funcs[f]? = some fn) (hb : fn.body = some c) (hname : (fn.name == "runtime.NumGoroutine") = false)
    (hN : codeB fn.ntmps c = true) {As : List V} (hA : Nat.ble As.length fn.ntmps = true) {Q : V → List Blk → Prop}
    (H : wfVs As → wpC P tt c (xQ tt fn.results.toList Q) (argE 0 As) [.gone]) : PX P f As Q := by
  refine ⟨⟨fn, hf, hname, by rw [hb]; rfl⟩, fun w X args hX1 hX2 hargs => ?_⟩
  have hlen : ∀ (vs : List V) (cs : List Value), repT w [mX X] [.gone] vs cs → cs.length = vs.length := by
    intro vs
    induction vs with
    | nil => intro cs H; cases H; rfl
    | cons v vs ih => intro cs H; obtain ⟨c, cs', rfl, _, h2⟩ := H; simp [ih _ h2]
  have hl := hlen As args hargs
  have hA' := Nat.le_of_ble_eq_true hA
  have hO : MM.O [mX X] = X := by rw [O_one, mO_mX]
  have R : Rep w X fn.ntmps [mX X] (argE 0 As) [.gone] { tmps := args.toArray ++ Array.replicate (fn.ntmps - args.toArray.size) Go.undef, defers := [] } w := {
    ext := Ext.refl w
    inv := ⟨rfl, fun b k m hk hm => by
        cases b with
        | zero => simp at hk; subst hk; trivial
        | succ b => simp at hk, by rw [hO]; exact hX1, fun b k m hk hm hl => by
        cases b with
        | zero => simp at hk; subst hk; cases hl
        | succ b => simp at hk, by rw [hO]; exact hX2⟩
    env := fun k => by
      rw [argE_get, if_pos (Nat.zero_le _), Nat.sub_zero]
      split
      · rename_i v hv
        obtain ⟨cc, k1, k2⟩ := repT_get As args k v hargs hv
        have hk : k < args.length := (List.getElem?_eq_some_iff.1 k1).1
        have : (args.toArray ++ Array.replicate (fn.ntmps - args.toArray.size) Go.undef).getD k Go.undef = cc := by
          rw [Array.getD_eq_getD_getElem?, Array.getElem?_append_left (by simpa using hk)]
          simp [k1]
        dsimp only
        rw [this]
        exact rep_of_rep1 k2
      · trivial
    sz := by simp; omega
    df := rfl
    fr := rfl
    fh := rfl }
  refine calls_of_wp hf hb (wp_mono (code_sound hT hm c _ _ _ _ _ _ hN (H (repT_wf _ _ hargs)) R) fun x a' w' hx => ?_)
  have fin : ∀ (e : Env) (h : List Blk) (M : MM), retV tt fn.results.toList e h (fun va => ∃ v bs, Q v bs ∧ RetOK h va v bs) → Rep w X fn.ntmps M e h a' w' →
      a'.defers = [] ∧ ∃ cv, (results fn a'.tmps).run P w' = .ok cv w' ∧ ∃ v bs cv' M', Q v bs ∧ Ending.returned cv = .returned cv' ∧ Ext w w' ∧ MInv w.heap.size w' (mX X :: M') (.gone :: bs) ∧ rep w' (mX X :: M') (.gone :: bs) v cv' := by
    intro e h M hr R'
    obtain ⟨vs, cvs, h1, h2, h3, h4⟩ := res_sound hT R' _ _ hr
    refine ⟨R'.df, _, run_results h4, ?_⟩
    match vs, cvs, h2 with
    | [va], [cv], _ =>
      obtain ⟨c', k1, k2⟩ := h3 0 va rfl
      cases k1
      obtain ⟨v, bs, hq, h1⟩ := h1
      obtain ⟨M', q1, q2⟩ := ret_sound R' k2 h1
      exact ⟨v, bs, cv, M', hq, rfl, R'.ext, q1, q2⟩
    | [], [], _ =>
      obtain ⟨v, bs, hq, h1⟩ := h1
      obtain ⟨M', q1, q2⟩ := ret_sound R' (va := .tup []) (cv := .tuple #[]) ⟨[], rfl, rfl⟩ h1
      exact ⟨v, bs, _, M', hq, rfl, R'.ext, q1, q2⟩
    | va :: vb :: vs, ca :: cb :: cvs, h2 =>
      dsimp only at h1
      cases hok : okTs (va :: vb :: vs) with
      | false => rw [hok] at h1; exact h1.elim
      | true =>
        rw [hok] at h1
        simp only [cond_true] at h1
        have hall : ∀ (vs : List V) (cs : List Value), vs.length = cs.length → okTs vs = true → (∀ (i : Nat) (v : V), vs[i]? = some v → ∃ c, cs[i]? = some c ∧ rep w' M h v c) → repT w' M h vs cs := by
          intro vs
          induction vs with
          | nil => intro cs hl _ _; cases cs with
            | nil => rfl
            | cons _ _ => simp at hl
          | cons v vs ih =>
            intro cs hl ho hg
            cases cs with
            | nil => simp at hl
            | cons c cs =>
              simp only [okTs, Bool.and_eq_true] at ho
              obtain ⟨c', k1, k2⟩ := hg 0 v rfl
              cases k1
              exact ⟨c, cs, rfl, rep1_of_rep ho.1 k2, ih cs (by simpa using hl) ho.2 fun i u hi => by simpa using hg (i + 1) u (by simpa using hi)⟩
        obtain ⟨v, bs, hq, h1⟩ := h1
        obtain ⟨M', q1, q2⟩ := ret_sound R' (va := .tup (va :: vb :: vs)) (cv := .tuple (ca :: cb :: cvs).toArray) ⟨_, rfl, hall _ _ h2 hok h3⟩ h1
        exact ⟨v, bs, _, M', hq, rfl, R'.ext, q1, q2⟩
  cases x with
  | normal => obtain ⟨e, h, M, k1, k2⟩ := hx; exact fin e h M k1 k2
  | ret => obtain ⟨e, h, M, k1, k2⟩ := hx; exact fin e h M k1 k2
  | exit id => obtain ⟨e, h, M, k1, k2⟩ := hx; exact k1.elim
  | goto l => exact hx.elim
  | panic => exact hx.elim
  | outgrown => exact hx.elim
section
variable {P : Program} {dr : Bool} {f : FuncId} {As vs : List V} {Q : V → List Blk → Prop} {e : Env} {h : List Blk} {K : V → Env → List Blk → Prop}
theorem clx_ (px : PX P f As Q) {G : V → List Blk → Prop} (H : ∀ v bs, Q v bs → (v.fit (!V.exts vs) && fitBs (!V.exts vs) bs) = true ∧ G v bs) (hb : borVs h vs As := by ((repeat' (first | exact trivial | with_reducible rfl | ((conv => whnf); first | done | exact trivial | with_reducible rfl | (exact Or.inr ⟨rfl, rfl, rfl, rfl⟩) | (refine Or.inl ⟨_, rfl, ?_⟩) | (refine ⟨rfl, _, rfl, ?_⟩) | (refine ⟨_, _, rfl, ?_, ?_⟩) | (refine ⟨_, rfl, ?_⟩) | ((refine ⟨?_, ?_⟩); (focus (first | (simp; done) | omega)); (focus ((first | rw [List.drop_zero, List.take_of_length_le (Nat.le_of_eq (List.length_map _))] | rw [List.drop_zero, List.take_of_length_le (by omega)] | rfl); done))) | rfl))); (first | done | fail))) (h0 : Nat.ble 1 h.length = true := by rfl)
    (hk : ∀ v bs, G v bs → K (v.shift (h.length - 1)) e (h ++ shiftBs (h.length - 1) bs) := by (intro v bs H; exact H)) : CallW P dr f vs e h K :=
  ⟨.inl (.inr (px.callE hb h0 (fun v bs q => (H v bs q).1) (fun v bs q => hk v bs (H v bs q).2)))⟩
end
end Go.Proofs.YthpnobngoghhiaaDoor