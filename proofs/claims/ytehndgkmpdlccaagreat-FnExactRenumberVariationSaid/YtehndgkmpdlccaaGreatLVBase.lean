/- merged: several parts in one text. Leans on no more than they do. -/
import Derived.Test.YtehndgkmpdlccaaGreatTT
import Derived.Test.YtehndgkmpdlccaaGreatVM5
import Derived.Test.YtehndgkmpdlccaaGreatVMLib
import Derived.Test.YtehndgkmpdlccaaGreatTypes
import Derived.Test.YtehndgkmpdlccaaGreatRows
set_option linter.unusedSimpArgs false
set_option linter.unusedVariables false
namespace Go.Proofs.YtehndgkmpdlccaaGreat
open Go.RowKit
theorem l00In_v (n lo hi : Int) : PC Tryz.prog 36 [.d (.int .i64 n), .d (.int .i64 lo), .d (.int .i64 hi)] (.d (.bool (inB n lo hi))) [] := by
  refine pc_intro ttOk (by kernel_rfl) Tryz.func36 rfl (by kernel_rfl) (by kernel_rfl) (by kernel_rfl) (fun hw => ?_)
  (conv => whnf)
  (repeat' (first | (refine stg_ ?_) | (split <;> (conv => whnf))))
  (all_goals ((refine RetOK.d rfl rfl ?_; conv => whnf); (simp_all [inB]); (try omega)))
theorem l29Normal_v (n : Int) : PC Tryz.prog 92 [.d (.int .i64 n)] (.d (.bool (nrm n))) [] := by
  refine pc_intro ttOk (by kernel_rfl) Tryz.func92 rfl (by kernel_rfl) (by kernel_rfl) (by kernel_rfl) (fun hw => ?_)
  (conv => whnf)
  (refine cl_ (l00In_v n _ _) ?_)
  (refine RetOK.d rfl rfl ?_; conv => whnf)
  rfl
theorem isNormal_v (n : Int) : PC Tryz.prog 74 [.d (.int .i64 n)] (.d (.bool (nrm n))) [] := by
  refine pc_intro ttOk (by kernel_rfl) Tryz.func74 rfl (by kernel_rfl) (by kernel_rfl) (by kernel_rfl) (fun hw => ?_)
  (conv => whnf)
  (repeat' (first | (refine stg_ ?_) | (split <;> (conv => whnf))))
  (all_goals ((refine RetOK.d rfl rfl ?_; conv => whnf); (simp_all [nrm]); (try omega)))
theorem isSmall_v (c : UInt8) : PC Tryz.prog 121 [.d (.int .u8 c.toNat)] (.d (.bool (smB c))) [] := by
  refine pc_intro ttOk (by kernel_rfl) Tryz.func121 rfl (by kernel_rfl) (by kernel_rfl) (by kernel_rfl) (fun hw => ?_)
  (conv => whnf)
  (repeat' (first | (refine stg_ ?_) | (split <;> (conv => whnf))))
  (all_goals ((refine RetOK.d rfl rfl ?_; conv => whnf); (simp_all [smB]); (try omega)))
theorem isDigit_v (c : UInt8) : PC Tryz.prog 122 [.d (.int .u8 c.toNat)] (.d (.bool (dgB c))) [] := by
  refine pc_intro ttOk (by kernel_rfl) Tryz.func122 rfl (by kernel_rfl) (by kernel_rfl) (by kernel_rfl) (fun hw => ?_)
  (conv => whnf)
  (repeat' (first | (refine stg_ ?_) | (split <;> (conv => whnf))))
  (all_goals ((refine RetOK.d rfl rfl ?_; conv => whnf); (simp_all [dgB]); (try omega)))
theorem l01Small_v (c : UInt8) : PC Tryz.prog 117 [.d (.int .u8 c.toNat)] (.d (.bool (smB c))) [] := by
  refine pc_intro ttOk (by kernel_rfl) Tryz.func117 rfl (by kernel_rfl) (by kernel_rfl) (by kernel_rfl) (fun hw => ?_)
  (conv => whnf)
  (repeat' (first | (refine stg_ ?_) | (split <;> (conv => whnf))))
  (all_goals ((refine RetOK.d rfl rfl ?_; conv => whnf); (simp_all [smB]); (try omega)))
theorem l01Digit_v (c : UInt8) : PC Tryz.prog 118 [.d (.int .u8 c.toNat)] (.d (.bool (dgB c))) [] := by
  refine pc_intro ttOk (by kernel_rfl) Tryz.func118 rfl (by kernel_rfl) (by kernel_rfl) (by kernel_rfl) (fun hw => ?_)
  (conv => whnf)
  (repeat' (first | (refine stg_ ?_) | (split <;> (conv => whnf))))
  (all_goals ((refine RetOK.d rfl rfl ?_; conv => whnf); (simp_all [dgB]); (try omega)))
theorem IsName_v (s : ByteArray) : PC Tryz.prog 97 [.d (.str s)] (.d (.bool (nameB s))) [] := by
  refine pc_intro ttOk (by kernel_rfl) Tryz.func97 rfl (by kernel_rfl) (by kernel_rfl) (by kernel_rfl) (fun hw => ?_)
  have hs : s.size ≤ 9223372036854775807 := hw.1
  by_cases h0 : 0 < s.size
  · have HN := nameB_cons h0
    have hc := bget? h0
    (conv => whnf)
    (split <;> rename_i h1 <;> simp only [decide_eq_true_eq, decide_eq_false_iff_not, Bool.not_eq_true', Bool.not_eq_false', bne_iff_ne, ne_eq, beq_iff_eq, bne_eq_false_iff_eq, beq_eq_false_iff_ne, Decidable.not_not, Nat.not_lt, Nat.not_le, Int.not_lt, Int.not_le, Bool.and_eq_true, Bool.and_eq_false_iff, Bool.or_eq_true, Bool.or_eq_false_iff] at h1 <;> (conv => whnf) <;> (repeat (refine stg_ ?_)))
    · exfalso; omega
    · (split <;> rename_i h2 <;> simp only [decide_eq_true_eq, decide_eq_false_iff_not, Bool.not_eq_true', Bool.not_eq_false', bne_iff_ne, ne_eq, beq_iff_eq, bne_eq_false_iff_eq, beq_eq_false_iff_ne, Decidable.not_not, Nat.not_lt, Nat.not_le, Int.not_lt, Int.not_le, Bool.and_eq_true, Bool.and_eq_false_iff, Bool.or_eq_true, Bool.or_eq_false_iff] at h2 <;> (conv => whnf) <;> (repeat (refine stg_ ?_)))
      · (refine RetOK.d rfl rfl ?_; conv => whnf)
        rw [HN, decide_eq_false (by omega)]; rfl
      · (refine cl_ (isSmall_v _) ?_)
        rw [decide_eq_true (by omega), Bool.true_and] at HN
        (split <;> rename_i h3 <;> simp only [decide_eq_true_eq, decide_eq_false_iff_not, Bool.not_eq_true', Bool.not_eq_false', bne_iff_ne, ne_eq, beq_iff_eq, bne_eq_false_iff_eq, beq_eq_false_iff_ne, Decidable.not_not, Nat.not_lt, Nat.not_le, Int.not_lt, Int.not_le, Bool.and_eq_true, Bool.and_eq_false_iff, Bool.or_eq_true, Bool.or_eq_false_iff] at h3 <;> (conv => whnf) <;> (repeat (refine stg_ ?_)))
        · (refine RetOK.d rfl rfl ?_; conv => whnf)
          rw [HN, h3]; rfl
        · rw [h3, Bool.true_and] at HN
          refine LoopW.go (α := Nat) (fun k => [(0, .d (.str s)), (3, .d (.int .i64 k))]) (fun _ => [.gone]) (fun k => 1 ≤ k ∧ k ≤ s.size ∧ nameB s = (s.data.toList.drop k).all nmC) (fun k => s.size - k) 1 (Weak.cov ⟨rfl, rfl, trivial⟩ ⟨trivial, trivial⟩ rfl) ⟨by omega, by omega, HN⟩ (fun k hk => ?_)
          obtain ⟨hk1, hk2, hk3⟩ := hk
          (conv => whnf)
          clear hc
          (split <;> rename_i h4 <;> simp only [decide_eq_true_eq, decide_eq_false_iff_not, Bool.not_eq_true', Bool.not_eq_false', bne_iff_ne, ne_eq, beq_iff_eq, bne_eq_false_iff_eq, beq_eq_false_iff_ne, Decidable.not_not, Nat.not_lt, Nat.not_le, Int.not_lt, Int.not_le, Bool.and_eq_true, Bool.and_eq_false_iff, Bool.or_eq_true, Bool.or_eq_false_iff] at h4 <;> (conv => whnf) <;> (repeat (refine stg_ ?_)))
          · have h4' : k < s.size := by omega
            have hc := bget? h4'
            rw [dropN h4', List.all_cons] at hk3
            (repeat (refine stg_ ?_))
            (refine cl_ (isSmall_v _) ?_)
            (repeat' (first | (refine stg_ ?_) | ((refine cl_ (isDigit_v _) ?_)) | (split <;> (conv => whnf)))); all_goals (first | (exfalso; simp_all; done) | (refine NextW.go (k + 1) (Weak.cov ⟨rfl, rfl, trivial⟩ ⟨trivial, trivial⟩ rfl) ⟨by omega, by omega, ?_⟩ (by omega); rw [hk3, Bool.and_eq_right_iff_imp]; intro _; simp_all [nmC]; done) | ((refine RetOK.d rfl rfl ?_; conv => whnf); rw [hk3]; simp_all [nmC]; done) | skip)
          · (refine RetOK.d rfl rfl ?_; conv => whnf)
            rw [hk3, List.drop_eq_nil_of_le (by show s.size ≤ k; omega)]; rfl
  · have HN := nameB_nil (s := s) (by omega)
    (conv => whnf)
    (split <;> rename_i h1 <;> simp only [decide_eq_true_eq, decide_eq_false_iff_not, Bool.not_eq_true', Bool.not_eq_false', bne_iff_ne, ne_eq, beq_iff_eq, bne_eq_false_iff_eq, beq_eq_false_iff_ne, Decidable.not_not, Nat.not_lt, Nat.not_le, Int.not_lt, Int.not_le, Bool.and_eq_true, Bool.and_eq_false_iff, Bool.or_eq_true, Bool.or_eq_false_iff] at h1 <;> (conv => whnf) <;> (repeat (refine stg_ ?_)))
    · (refine RetOK.d rfl rfl ?_; conv => whnf)
      rw [HN]
    · exfalso; omega
theorem specIsName_v (s : ByteArray) : PC Tryz.prog 90 [.d (.str s)] (.d (.bool (nameB s))) [] := by
  refine pc_intro ttOk (by kernel_rfl) Tryz.func90 rfl (by kernel_rfl) (by kernel_rfl) (by kernel_rfl) (fun hw => ?_)
  have hs : s.size ≤ 9223372036854775807 := hw.1
  by_cases h0 : 0 < s.size
  · have HN := nameB_cons h0
    have hc := bget? h0
    (conv => whnf)
    (split <;> rename_i h1 <;> simp only [decide_eq_true_eq, decide_eq_false_iff_not, Bool.not_eq_true', Bool.not_eq_false', bne_iff_ne, ne_eq, beq_iff_eq, bne_eq_false_iff_eq, beq_eq_false_iff_ne, Decidable.not_not, Nat.not_lt, Nat.not_le, Int.not_lt, Int.not_le, Bool.and_eq_true, Bool.and_eq_false_iff, Bool.or_eq_true, Bool.or_eq_false_iff] at h1 <;> (conv => whnf) <;> (repeat (refine stg_ ?_)))
    · exfalso; rw [toL_inj h1] at h0; exact absurd h0 (by decide)
    · (split <;> rename_i h2 <;> simp only [decide_eq_true_eq, decide_eq_false_iff_not, Bool.not_eq_true', Bool.not_eq_false', bne_iff_ne, ne_eq, beq_iff_eq, bne_eq_false_iff_eq, beq_eq_false_iff_ne, Decidable.not_not, Nat.not_lt, Nat.not_le, Int.not_lt, Int.not_le, Bool.and_eq_true, Bool.and_eq_false_iff, Bool.or_eq_true, Bool.or_eq_false_iff] at h2 <;> (conv => whnf) <;> (repeat (refine stg_ ?_)))
      · (refine RetOK.d rfl rfl ?_; conv => whnf)
        rw [HN, decide_eq_false (by omega)]; rfl
      · (refine cl_ (l01Small_v _) ?_)
        rw [decide_eq_true (by omega), Bool.true_and] at HN
        (split <;> rename_i h3 <;> simp only [decide_eq_true_eq, decide_eq_false_iff_not, Bool.not_eq_true', Bool.not_eq_false', bne_iff_ne, ne_eq, beq_iff_eq, bne_eq_false_iff_eq, beq_eq_false_iff_ne, Decidable.not_not, Nat.not_lt, Nat.not_le, Int.not_lt, Int.not_le, Bool.and_eq_true, Bool.and_eq_false_iff, Bool.or_eq_true, Bool.or_eq_false_iff] at h3 <;> (conv => whnf) <;> (repeat (refine stg_ ?_)))
        · (refine RetOK.d rfl rfl ?_; conv => whnf)
          rw [HN, h3]; rfl
        · rw [h3, Bool.true_and] at HN
          refine LoopW.go (α := Nat) (fun k => [(0, .d (.str s)), (3, .d (.int .i64 k))]) (fun _ => [.gone]) (fun k => 0 ≤ k ∧ k ≤ s.size ∧ nameB s = (s.data.toList.drop k).all nmC) (fun k => s.size - k) 0 (Weak.cov ⟨rfl, rfl, trivial⟩ ⟨trivial, trivial⟩ rfl) ⟨by omega, by omega, by rw [HN, dropN h0, List.all_cons, smB_nmC h3, Bool.true_and]⟩ (fun k hk => ?_)
          obtain ⟨hk1, hk2, hk3⟩ := hk
          (conv => whnf)
          clear hc
          (split <;> rename_i h4 <;> simp only [decide_eq_true_eq, decide_eq_false_iff_not, Bool.not_eq_true', Bool.not_eq_false', bne_iff_ne, ne_eq, beq_iff_eq, bne_eq_false_iff_eq, beq_eq_false_iff_ne, Decidable.not_not, Nat.not_lt, Nat.not_le, Int.not_lt, Int.not_le, Bool.and_eq_true, Bool.and_eq_false_iff, Bool.or_eq_true, Bool.or_eq_false_iff] at h4 <;> (conv => whnf) <;> (repeat (refine stg_ ?_)))
          · have h4' : k < s.size := by omega
            have hc := bget? h4'
            rw [dropN h4', List.all_cons] at hk3
            (repeat (refine stg_ ?_))
            (refine cl_ (l01Small_v _) ?_)
            (repeat' (first | (refine stg_ ?_) | ((refine cl_ (l01Digit_v _) ?_)) | (split <;> (conv => whnf)))); all_goals (first | (exfalso; simp_all; done) | (refine NextW.go (k + 1) (Weak.cov ⟨rfl, rfl, trivial⟩ ⟨trivial, trivial⟩ rfl) ⟨by omega, by omega, ?_⟩ (by omega); rw [hk3, Bool.and_eq_right_iff_imp]; intro _; simp_all [nmC]; done) | ((refine RetOK.d rfl rfl ?_; conv => whnf); rw [hk3]; simp_all [nmC]; done) | skip)
          · (refine RetOK.d rfl rfl ?_; conv => whnf)
            rw [hk3, List.drop_eq_nil_of_le (by show s.size ≤ k; omega)]; rfl
  · have HN := nameB_nil (s := s) (by omega)
    (conv => whnf)
    (split <;> rename_i h1 <;> simp only [decide_eq_true_eq, decide_eq_false_iff_not, Bool.not_eq_true', Bool.not_eq_false', bne_iff_ne, ne_eq, beq_iff_eq, bne_eq_false_iff_eq, beq_eq_false_iff_ne, Decidable.not_not, Nat.not_lt, Nat.not_le, Int.not_lt, Int.not_le, Bool.and_eq_true, Bool.and_eq_false_iff, Bool.or_eq_true, Bool.or_eq_false_iff] at h1 <;> (conv => whnf) <;> (repeat (refine stg_ ?_)))
    · (refine RetOK.d rfl rfl ?_; conv => whnf)
      rw [HN]
    · exfalso; exact h1 (congrArg ByteArray.toList (ByteArray.ext (Array.eq_empty_of_size_eq_zero (by show s.size = 0; omega))))
section
variable {α : Type}
def fdx (p : α → Bool) : List α → Nat → Int
  | [], _ => -1
  | x :: t, k => if p x = true then (k : Int) else fdx p t (k + 1)
theorem fdx_at {p : α → Bool} {xs : List α} {k : Nat} {x : α} (hx : xs[k]? = some x) : fdx p (xs.drop k) k = if p x = true then (k : Int) else fdx p (xs.drop (k + 1)) (k + 1) := by
  rw [drop_at hx, fdx]
theorem fdx_end {p : α → Bool} {xs : List α} {k : Nat} (hx : xs.length ≤ k) : fdx p (xs.drop k) k = -1 := by
  rw [List.drop_eq_nil_of_le hx, fdx]
theorem fdx_any (p : α → Bool) : ∀ (xs : List α) (k : Nat), decide (0 ≤ fdx p xs k) = xs.any p
  | [], _ => rfl
  | x :: t, k => by
    rw [List.any_cons, fdx]
    by_cases h : p x = true
    · rw [if_pos h, h]; simp
    · rw [if_neg h, fdx_any p t (k + 1)]; simp [h]
theorem any_snoc {p : α → Bool} {xs : List α} {j : Nat} {y : α} (hy : xs[j]? = some y) : (xs.take (j + 1)).any p = ((xs.take j).any p || p y) := by
  rw [take_snoc_get hy, List.any_append]; simp
theorem any_take {p : α → Bool} {xs : List α} {j k : Nat} {y : α} (hy : xs[j]? = some y) (hjk : j < k) (hp : p y = true) : (xs.take k).any p = true := by
  rw [List.any_eq_true]
  refine ⟨y, ?_, hp⟩
  apply List.mem_of_getElem? (i := j)
  rw [List.getElem?_take, if_pos hjk, hy]
end
def mkS (l : List UInt8) : ByteArray := ⟨l.toArray⟩
theorem mkS_toList (l : List UInt8) : (mkS l).data.toList = l := by simp [mkS]
theorem mkS_size (l : List UInt8) : (mkS l).size = l.length := by simp [mkS, ByteArray.size]
theorem mkS_app (a b : List UInt8) : mkS a ++ mkS b = mkS (a ++ b) := by
  apply ByteArray.ext
  simp [mkS]
def dgC (d : Nat) : UInt8 := UInt8.ofNat (48 + d)
def decL (u : Nat) : List UInt8 := if u < 10 then [dgC u] else decL (u / 10) ++ [dgC (u % 10)]
termination_by u
theorem decL_lo {u : Nat} (h : u < 10) : decL u = [dgC u] := by rw [decL, if_pos h]
theorem decL_hi {u : Nat} (h : ¬ u < 10) : decL u = decL (u / 10) ++ [dgC (u % 10)] := by rw [decL, if_neg h]
theorem decL_len : ∀ (k u : Nat), u < 10 ^ (k + 1) → (decL u).length ≤ k + 1
  | 0, u, h => by rw [decL_lo (by simpa using h)]; simp
  | k + 1, u, h => by
    by_cases h1 : u < 10
    · rw [decL_lo h1]; simp
    · rw [decL_hi h1]
      have := decL_len k (u / 10) (by rw [Nat.div_lt_iff_lt_mul (by omega)]; rw [Nat.pow_succ] at h; exact h)
      simp; omega
theorem dgC_toNat {d : Nat} (h : d < 10) : (dgC d).toNat = 48 + d := by simp [dgC]; omega
open Go.RowKit Go.ChangeShapes Go.WideShapes
def RdD (P : Program) (T : TypeId) (n : Nat) (p : D → Prop) : Prop :=
  P.cellsOf T = n ∧ ∀ (H : Type) (enc : TypeId × Value → H) (w : World) (fuel : Nat) (cs : List Value) (x : DataW H × List MemPlace),
    DataW.trod enc P w 0 (fun _ => true) true fuel T cs = some x → ∃ d, p d ∧ d.size = n ∧ repD [] w d cs
theorem inR_wf {k : IntKind} {n : Int} (h : (Lit.int k n).wf = true) : inR k n := by
  have h' : (decide (k.min ≤ n) && decide (n ≤ k.max)) = true := h
  simp only [Bool.and_eq_true, decide_eq_true_eq] at h'
  exact h'
section
variable {P : Program} {T : TypeId}
theorem rd2_int {k : IntKind} (hT : P.underlying T = some (.int k)) (hc : P.cellsOf T = 1) : RdD P T 1 fun d => ∃ n, d = .int k n :=
  ⟨hc, fun H enc w fuel cs x h => by
    obtain ⟨n, rfl, _, hw⟩ := DataW.trod_int hT h
    exact ⟨_, ⟨n, rfl⟩, rfl, rfl, inR_wf hw⟩⟩
theorem rd2_str (hT : P.underlying T = some .string) (hc : P.cellsOf T = 1) : RdD P T 1 fun d => ∃ s, d = .str s :=
  ⟨hc, fun H enc w fuel cs x h => by
    obtain ⟨n, rfl, _, hw⟩ := DataW.trod_string hT h
    exact ⟨_, ⟨n, rfl⟩, rfl, rfl, hw⟩⟩
theorem rd2_imp {n : Nat} {p q : D → Prop} (h : RdD P T n p) (hq : ∀ d, p d → q d) : RdD P T n q :=
  ⟨h.1, fun H enc w fuel cs x ht => by
    obtain ⟨d, h1, h2⟩ := h.2 H enc w fuel cs x ht
    exact ⟨d, hq d h1, h2⟩⟩
theorem rd2_slice {E : TypeId} {n : Nat} {p : D → Prop} (hT : P.underlying T = some (.slice E)) (hc : P.cellsOf T = 1) (hn : 0 < n) (hE : RdD P E n p) : RdD P T 1 fun d => ∃ xs : List D, d = .lst xs ∧ ∀ x ∈ xs, p x :=
  ⟨hc, fun H enc w fuel cs x h => by
    rcases Deep.open_slice hT h with ⟨rfl, _⟩ | ⟨a, len, cap, m, k, Dd, Pl, rfl, _, hl, hm, hmm, _, hel⟩
    · exact ⟨.lst [], ⟨[], rfl, by simp⟩, rfl, none, 0, 0, rfl, Nat.le_refl _, Nat.zero_le _, fun _ => rfl, trivial⟩
    · simp only [if_true] at hmm
      obtain rfl := hmm.symm
      obtain ⟨xs, hxl, hxs⟩ := exists_list (n := len) (p := fun i (x : D) => p x ∧ ∃ b o cs, a = ⟨b, o, none⟩ ∧ b < w.heap.size ∧ CellsAt w b (o + i * n) cs ∧ x.size = n ∧ repD [] w x cs) (fun i hi => by
        obtain ⟨cs', h1, h2⟩ := hel i (by omega)
        obtain ⟨y, hy1, hy2, hy3⟩ := hE.2 _ _ _ _ _ _ h2
        obtain ⟨_, hcl, hat⟩ := World.cells?_some h1
        rw [hE.1] at hcl hat
        have h0 := hat 0 hn
        rw [List.getElem?_eq_getElem (by omega)] at h0
        have hsp := cell_spot h0
        have haa : a = ⟨a.block, a.off, none⟩ := by
          obtain ⟨cs0, h10, h20⟩ := hel 0 (by omega)
          obtain ⟨_, hcl0, hat0⟩ := World.cells?_some h10
          rw [hE.1] at hcl0 hat0
          have h00 := hat0 0 hn
          rw [List.getElem?_eq_getElem (by omega)] at h00
          simpa [Addr.add] using cell_spot h00
        have hcells : CellsAt w a.block (a.off + i * n) cs' := fun j v hj => by
          have hjl : j < cs'.length := (List.getElem?_eq_some_iff.1 hj).1
          have := hat j (by omega)
          rw [hj] at this
          rw [addr_add, haa, addr_add_plain] at this
          simpa [Nat.add_assoc] using this
        refine ⟨y, hy1, a.block, a.off, cs', haa, ?_, hcells, hy2, hy3⟩
        have h1 := hcells 0 cs'[0] (List.getElem?_eq_getElem (by omega))
        have h2 := World.block_lt_of_cell? (w := w) (a := ⟨a.block, a.off + i * n + 0, none⟩) h1
        exact h2)
      refine ⟨.lst xs, ⟨xs, rfl, fun y hy => ?_⟩, rfl, some a, cap, n, by rw [hxl], by omega, hm, (fun h => by cases h), (repDe_get xs 0).2 fun i x hx => ?_⟩
      · obtain ⟨i, hi⟩ := List.getElem?_of_mem hy
        exact (hxs i y hi).1
      · obtain ⟨_, b, o, cs, e, h1, h2, h3, h4⟩ := hxs i x hx
        exact ⟨b, o, cs, by rw [e], by simp, h1, by rw [Nat.zero_add]; exact h2, h3, h4⟩⟩
structure FRd where
  t : TypeId
  n : Nat
  p : D → Prop
def offs : Nat → List FRd → List (Nat × TypeId)
  | _, [] => []
  | o, f :: fs => (o, f.t) :: offs (o + f.n) fs
def all2 : List FRd → List D → Prop
  | [], ds => ds = []
  | f :: fs, ds => ∃ d ds', ds = d :: ds' ∧ f.p d ∧ all2 fs ds'
def sumN : List FRd → Nat
  | [] => 0
  | f :: fs => f.n + sumN fs
def allRd (P : Program) : List FRd → Prop
  | [] => True
  | f :: fs => RdD P f.t f.n f.p ∧ allRd P fs
theorem rd2_struct {fs : Array Field} {ps : List FRd} {n : Nat} (hT : P.underlying T = some (.struct fs)) (hfs : fs.toList.map (fun f => (f.offset, f.type)) = offs 0 ps) (hR : allRd P ps) (hc : P.cellsOf T = n) (hn : sumN ps = n) :
    RdD P T n fun d => ∃ ds, d = .st ds ∧ all2 ps ds :=
  ⟨hc, fun H enc w fuel cs x h => by
    obtain ⟨xs, m, _, _, hl, hxl, hf⟩ := DataW.trod_struct hT h
    have key : ∀ (ps : List FRd) (o i : Nat), (fs.toList.drop i).map (fun f => (f.offset, f.type)) = offs o ps → allRd P ps → ∃ ds, all2 ps ds ∧ D.sizes ds = sumN ps ∧ repDs [] w ds ((cs.drop o).take (sumN ps)) := by
      intro ps
      induction ps with
      | nil => intro o i _ _; exact ⟨[], rfl, rfl, by simp [sumN, repDs]⟩
      | cons f ps ih =>
        intro o i he hr
        cases hd : fs.toList.drop i with
        | nil => rw [hd] at he; simp [offs] at he
        | cons g gs =>
          rw [hd] at he
          simp only [List.map_cons, offs, List.cons.injEq, Prod.mk.injEq] at he
          obtain ⟨⟨e1, e2⟩, e3⟩ := he
          have hgi : fs[i]? = some g := by
            have := congrArg List.head? hd
            rw [List.head?_drop] at this
            simpa using this
          have h1 := hf i g hgi
          have hlt : i < xs.length := by rw [hxl]; exact (Array.getElem?_eq_some_iff.1 hgi).1
          rw [List.getElem?_eq_getElem hlt] at h1
          obtain ⟨hr1, hr2⟩ := hr
          have hg : g.type = f.t := e2
          rw [hg, e1] at h1
          obtain ⟨d, k1, k2, k3⟩ := hr1.2 _ _ _ _ _ _ h1
          rw [hr1.1] at k3
          have hdr : fs.toList.drop (i + 1) = gs := by
            rw [← List.drop_drop, hd]; rfl
          obtain ⟨ds, m1, m2, m3⟩ := ih (o + f.n) (i + 1) (by rw [hdr]; exact e3) hr2
          refine ⟨d :: ds, ⟨d, ds, rfl, k1, m1⟩, by simp only [D.sizes, sumN, k2, m2], (cs.drop o).take f.n, (cs.drop (o + f.n)).take (sumN ps), ?_, k3, m3⟩
          rw [sumN, List.take_add, List.drop_drop]
    obtain ⟨ds, h1, h2, h3⟩ := key ps 0 0 (by simpa using hfs) hR
    refine ⟨.st ds, ⟨ds, rfl, h1⟩, by rw [← hn]; exact h2, ?_⟩
    have : cs = (cs.drop 0).take (sumN ps) := by
      rw [List.drop_zero, List.take_of_length_le (by rw [hl, hc, hn]; exact Nat.le_refl _)]
    rw [this]
    exact h3⟩
end
def ArgRd (P : Program) (T : TypeId) (p : D → Prop) : Prop :=
  ∀ (H : Type) (enc : TypeId × Value → H) (w : World) (base : Nat) (v : Value) (d : DataW H) (pl : List MemPlace), Value.okWide P w .any base T v → DataW.Trod enc P w 0 (fun _ => true) true T v d pl →
    ∃ y, p y ∧ rep1 w [none] [.gone] (.d y) v
section
variable {P : Program} {T : TypeId} {n : Nat} {p : D → Prop}
theorem arg_cell (hR : RdD P T n p) (ha : ∀ y, p y → y.agg = false) (hv : ∀ (w : World) base v, Value.okWide P w .any base T v → v.cells.toList = [v]) : ArgRd P T p := fun H enc w base v d pl hok ht => by
  obtain ⟨fuel, hf⟩ := ht
  obtain ⟨y, h1, _, h2⟩ := hR.2 _ _ _ _ _ _ hf
  refine ⟨y, h1, ?_⟩
  rw [hv w base v hok] at h2
  unfold rep1
  rw [if_neg (by show ¬ (y.agg = true); rw [ha y h1]; simp)]
  exact h2
theorem arg_sl {E : TypeId} (hT : P.underlying T = some (.slice E)) (hR : RdD P T n p) (ha : ∀ y, p y → y.agg = false) : ArgRd P T p := arg_cell hR ha fun w base v h => by
  obtain ⟨a, l, c, rfl⟩ := okWide_slice hT h
  rfl
theorem arg_st {fs : Array Field} (hT : P.underlying T = some (.struct fs)) (hR : RdD P T n p) (ha : ∀ y, p y → y.agg = true) : ArgRd P T p := fun H enc w base v d pl hok ht => by
  obtain ⟨fuel, hf⟩ := ht
  obtain ⟨y, h1, _, h2⟩ := hR.2 _ _ _ _ _ _ hf
  obtain ⟨a, rfl, _⟩ := okWide_struct hT hok
  refine ⟨y, h1, ?_⟩
  unfold rep1
  rw [if_pos (show (V.d y).isAgg = true from ha y h1)]
  exact ⟨a.toList, by simp, h2⟩
end
def args2 : List (D → Prop) → List D → Prop
  | [], ds => ds = []
  | p :: ps, ds => ∃ d ds', ds = d :: ds' ∧ p d ∧ args2 ps ds'
def argRds (P : Program) : List TypeId → List (D → Prop) → Prop
  | [], ps => ps = []
  | t :: ts, ps => ∃ p ps', ps = p :: ps' ∧ ArgRd P t p ∧ argRds P ts ps'
theorem law_of_pc {P : Program} {f : FuncId} {ts : List TypeId} {ps : List (D → Prop)} (hR : argRds P ts ps) (hpc : ∀ ds, args2 ps ds → PC P f (toVs ds) (.d (.bool true)) []) : LawCalls P f ts := by
  intro H enc W base args ds p hval hA
  have key : ∀ (ts : List TypeId) (ps : List (D → Prop)) (args : List Value) (ds : List (DataW H)) (pl : List MemPlace), argRds P ts ps → (∀ (j : Nat) t v, ts[j]? = some t → args[j]? = some v → Value.okWide P W .any base t v) →
      DataW.TrodAll enc P W 0 (fun _ => true) true ts args ds pl → ∃ ys, args2 ps ys ∧ repT W [none] [.gone] (toVs ys) args := by
    intro ts
    induction ts with
    | nil =>
      intro ps args ds pl hr _ hA
      obtain ⟨rfl, rfl, rfl⟩ := trodAll_nil hA
      cases hr
      exact ⟨[], rfl, rfl⟩
    | cons t ts ih =>
      intro ps args ds pl hr hv hA
      obtain ⟨v, vs, d, ds', p1, q1, rfl, rfl, rfl, h, r⟩ := ChangeShapes.trodAll_cons hA
      obtain ⟨p, ps', rfl, h1, h2⟩ := hr
      obtain ⟨y, y1, y2⟩ := h1 H enc W base v d p1 (hv 0 _ _ rfl rfl) h
      obtain ⟨ys, k1, k2⟩ := ih ps' vs ds' q1 h2 (fun j t v ht hv' => hv (j + 1) t v (by simpa using ht) (by simpa using hv')) r
      exact ⟨y :: ys, ⟨y, ys, rfl, y1, k1⟩, ⟨v, vs, rfl, y2, k2⟩⟩
  obtain ⟨ys, k1, k2⟩ := key ts ps args ds p hR hval hA
  refine ((hpc ys k1).run W [] args (by simp) (by simp) k2).mono ?_
  rintro e w' ⟨cv, M', rfl, hx, _, hr⟩
  exact ⟨by rw [rep_bool.1 hr], hx⟩
abbrev lstD {α : Type} (f : α → D) (xs : List α) : D := .lst (xs.map f)
def TPeak.D (x : TPeak) : D := .st [.int .i64 x.fStart, .int .i64 x.fTop, .int .i64 x.fEnd]
def TCharRange.D (x : TCharRange) : D := .st [.int .i64 x.fFrom, .int .i64 x.fCount, .int .i64 x.fGlyph]
def TSlot.D (x : TSlot) : D := .st [.int .i64 x.fGlyph, .int .i64 x.fX, .int .i64 x.fY, .int .i64 x.fAdvance, .int .i64 x.fFrom, .int .i64 x.fLen]
def TTable.D (x : TTable) : D := .st [.str x.fTag, .str x.fData]
def TAxisPoint.D (x : TAxisPoint) : D := .st [.int .i64 x.fFrom, .int .i64 x.fTo]
def TAxis.D (x : TAxis) : D := .st [.str x.fName, .int .i64 x.fMin, .int .i64 x.fDefault, .int .i64 x.fMax, .lst (x.fMap.map TAxisPoint.D)]
def TPt.D (x : TPt) : D := .st [.int .i64 x.fX, .int .i64 x.fY]
def TGlyphDelta.D (x : TGlyphDelta) : D := .st [.int .i64 x.fGlyph, .lst (x.fKnots.map (D.int .i64)), .lst (x.fMoves.map TPt.D), .int .i64 x.fAdvance]
def TMaster.D (x : TMaster) : D := .st [.lst (x.fPeaks.map TPeak.D), .lst (x.fDeltas.map TGlyphDelta.D)]
def TVariation.D (x : TVariation) : D := .st [.lst (x.fAxes.map TAxis.D), .lst (x.fMasters.map TMaster.D)]
def TKnot.D (x : TKnot) : D := .st [x.fAt.D, .bool x.fOn]
def TLoop.D (x : TLoop) : D := .st [.lst (x.fKnots.map TKnot.D)]
def TOutline.D (x : TOutline) : D := .st [.lst (x.fLoops.map TLoop.D)]
def TPart.D (x : TPart) : D := .st [.int .i64 x.fGlyph, x.fMove.D]
def TAnchor.D (x : TAnchor) : D := .st [.str x.fName, x.fAt.D]
def TGlyph.D (x : TGlyph) : D := .st [.str x.fName, .int .i64 x.fCode, .int .i64 x.fAdvance, x.fOutline.D, .lst (x.fParts.map TPart.D), .lst (x.fAnchors.map TAnchor.D), .str x.fHints]
def TGlyphSet.D (x : TGlyphSet) : D := .st [.int .i64 x.fUnit, .lst (x.fGlyphs.map TGlyph.D)]
def TRule.D (x : TRule) : D := .st [.lst (x.fBefore.map (lstD (D.int .i64))), .lst (x.fInput.map (lstD (D.int .i64))), .lst (x.fAfter.map (lstD (D.int .i64))), .lst (x.fOutput.map (D.int .i64))]
def TLookup.D (x : TLookup) : D := .st [.str x.fName, .lst (x.fRules.map TRule.D)]
def TKern.D (x : TKern) : D := .st [.lst (x.fLeft.map (D.int .i64)), .lst (x.fRight.map (D.int .i64)), .int .i64 x.fValue]
def TMarkRule.D (x : TMarkRule) : D := .st [.lst (x.fMarks.map (D.int .i64)), .lst (x.fBases.map (D.int .i64)), .str x.fAnchor]
def TJoin.D (x : TJoin) : D := .st [.int .i64 x.fGlyph, .int .i64 x.fKind, .int .i64 x.fInit, .int .i64 x.fMedi, .int .i64 x.fFina]
def TFeatures.D (x : TFeatures) : D := .st [.lst (x.fLookups.map TLookup.D), .lst (x.fKerns.map TKern.D), .lst (x.fMarks.map TMarkRule.D), .lst (x.fJoins.map TJoin.D)]
def TItem.D (x : TItem) : D := .st [.int .i64 x.fGlyph, .int .i64 x.fFrom, .int .i64 x.fLen]
theorem rd2_list {P : Program} {T E : TypeId} {n : Nat} {α : Type} {f : α → D} (hT : P.underlying T = some (.slice E)) (hc : P.cellsOf T = 1) (hn : 0 < n) (hE : RdD P E n fun d => ∃ x, d = f x) : RdD P T 1 fun d => ∃ xs : List α, d = .lst (xs.map f) :=
  rd2_imp (rd2_slice hT hc hn hE) fun d ⟨xs, e, h⟩ => by
    subst e
    have : ∀ xs : List D, (∀ x ∈ xs, ∃ y, x = f y) → ∃ ys : List α, xs = ys.map f := by
      intro xs
      induction xs with
      | nil => intro _; exact ⟨[], rfl⟩
      | cons x xs ih =>
        intro h
        obtain ⟨y, hy⟩ := h x (by simp)
        obtain ⟨ys, hys⟩ := ih fun z hz => h z (by simp [hz])
        exact ⟨y :: ys, by simp [hy, hys]⟩
    obtain ⟨ys, hys⟩ := this xs h
    exact ⟨ys, by rw [hys]⟩
theorem own : ownKnob Tryz.prog.godebug = none := by kernel_rfl
theorem laidOut : laidOutB Tryz.prog = true := by kernel_rfl
theorem rdt_int : RdD Tryz.prog 2 1 fun d => ∃ x : Int, d = .int .i64 x := rd2_int Tryz.underlying2 (by kernel_rfl)
theorem rdt_str : RdD Tryz.prog 9 1 fun d => ∃ x : ByteArray, d = .str x := rd2_str Tryz.underlying9 (by kernel_rfl)
theorem rdt_intS : RdD Tryz.prog 26 1 fun d => ∃ x : List Int, d = .lst (x.map (D.int .i64)) := rd2_list Tryz.underlying26 (by kernel_rfl) (by decide) rdt_int
theorem rdt_Peak : RdD Tryz.prog 139 3 fun d => ∃ x : TPeak, d = x.D := rd2_imp (rd2_struct (ps := [⟨2, 1, _⟩, ⟨2, 1, _⟩, ⟨2, 1, _⟩]) Tryz.underlying139 (by kernel_rfl) ⟨rdt_int, rdt_int, rdt_int, trivial⟩ (by kernel_rfl) rfl)
  (by rintro d ⟨ds, rfl, h⟩; obtain ⟨_, _, rfl, ⟨x0, rfl⟩, ⟨_, _, rfl, ⟨x1, rfl⟩, ⟨_, _, rfl, ⟨x2, rfl⟩, rfl⟩⟩⟩ := h; exact ⟨⟨x0, x1, x2⟩, rfl⟩)
theorem rdt_PeakS : RdD Tryz.prog 72 1 fun d => ∃ x : List TPeak, d = .lst (x.map TPeak.D) := rd2_list Tryz.underlying72 (by kernel_rfl) (by decide) rdt_Peak
theorem rdt_AxisPoint : RdD Tryz.prog 137 2 fun d => ∃ x : TAxisPoint, d = x.D := rd2_imp (rd2_struct (ps := [⟨2, 1, _⟩, ⟨2, 1, _⟩]) Tryz.underlying137 (by kernel_rfl) ⟨rdt_int, rdt_int, trivial⟩ (by kernel_rfl) rfl)
  (by rintro d ⟨ds, rfl, h⟩; obtain ⟨_, _, rfl, ⟨x0, rfl⟩, ⟨_, _, rfl, ⟨x1, rfl⟩, rfl⟩⟩ := h; exact ⟨⟨x0, x1⟩, rfl⟩)
theorem rdt_AxisPointS : RdD Tryz.prog 68 1 fun d => ∃ x : List TAxisPoint, d = .lst (x.map TAxisPoint.D) := rd2_list Tryz.underlying68 (by kernel_rfl) (by decide) rdt_AxisPoint
theorem rdt_Axis : RdD Tryz.prog 70 5 fun d => ∃ x : TAxis, d = x.D := rd2_imp (rd2_struct (ps := [⟨9, 1, _⟩, ⟨2, 1, _⟩, ⟨2, 1, _⟩, ⟨2, 1, _⟩, ⟨68, 1, _⟩]) Tryz.underlying70 (by kernel_rfl) ⟨rdt_str, rdt_int, rdt_int, rdt_int, rdt_AxisPointS, trivial⟩ (by kernel_rfl) rfl)
  (by rintro d ⟨ds, rfl, h⟩; obtain ⟨_, _, rfl, ⟨x0, rfl⟩, ⟨_, _, rfl, ⟨x1, rfl⟩, ⟨_, _, rfl, ⟨x2, rfl⟩, ⟨_, _, rfl, ⟨x3, rfl⟩, ⟨_, _, rfl, ⟨x4, rfl⟩, rfl⟩⟩⟩⟩⟩ := h; exact ⟨⟨x0, x1, x2, x3, x4⟩, rfl⟩)
theorem rdt_AxisS : RdD Tryz.prog 22 1 fun d => ∃ x : List TAxis, d = .lst (x.map TAxis.D) := rd2_list Tryz.underlying22 (by kernel_rfl) (by decide) rdt_Axis
theorem rdt_Pt : RdD Tryz.prog 170 2 fun d => ∃ x : TPt, d = x.D := rd2_imp (rd2_struct (ps := [⟨2, 1, _⟩, ⟨2, 1, _⟩]) Tryz.underlying170 (by kernel_rfl) ⟨rdt_int, rdt_int, trivial⟩ (by kernel_rfl) rfl)
  (by rintro d ⟨ds, rfl, h⟩; obtain ⟨_, _, rfl, ⟨x0, rfl⟩, ⟨_, _, rfl, ⟨x1, rfl⟩, rfl⟩⟩ := h; exact ⟨⟨x0, x1⟩, rfl⟩)
theorem rdt_PtS : RdD Tryz.prog 130 1 fun d => ∃ x : List TPt, d = .lst (x.map TPt.D) := rd2_list Tryz.underlying130 (by kernel_rfl) (by decide) rdt_Pt
theorem rdt_GlyphDelta : RdD Tryz.prog 132 4 fun d => ∃ x : TGlyphDelta, d = x.D := rd2_imp (rd2_struct (ps := [⟨2, 1, _⟩, ⟨26, 1, _⟩, ⟨130, 1, _⟩, ⟨2, 1, _⟩]) Tryz.underlying132 (by kernel_rfl) ⟨rdt_int, rdt_intS, rdt_PtS, rdt_int, trivial⟩ (by kernel_rfl) rfl)
  (by rintro d ⟨ds, rfl, h⟩; obtain ⟨_, _, rfl, ⟨x0, rfl⟩, ⟨_, _, rfl, ⟨x1, rfl⟩, ⟨_, _, rfl, ⟨x2, rfl⟩, ⟨_, _, rfl, ⟨x3, rfl⟩, rfl⟩⟩⟩⟩ := h; exact ⟨⟨x0, x1, x2, x3⟩, rfl⟩)
theorem rdt_GlyphDeltaS : RdD Tryz.prog 73 1 fun d => ∃ x : List TGlyphDelta, d = .lst (x.map TGlyphDelta.D) := rd2_list Tryz.underlying73 (by kernel_rfl) (by decide) rdt_GlyphDelta
theorem rdt_Master : RdD Tryz.prog 75 2 fun d => ∃ x : TMaster, d = x.D := rd2_imp (rd2_struct (ps := [⟨72, 1, _⟩, ⟨73, 1, _⟩]) Tryz.underlying75 (by kernel_rfl) ⟨rdt_PeakS, rdt_GlyphDeltaS, trivial⟩ (by kernel_rfl) rfl)
  (by rintro d ⟨ds, rfl, h⟩; obtain ⟨_, _, rfl, ⟨x0, rfl⟩, ⟨_, _, rfl, ⟨x1, rfl⟩, rfl⟩⟩ := h; exact ⟨⟨x0, x1⟩, rfl⟩)
theorem rdt_MasterS : RdD Tryz.prog 23 1 fun d => ∃ x : List TMaster, d = .lst (x.map TMaster.D) := rd2_list Tryz.underlying23 (by kernel_rfl) (by decide) rdt_Master
theorem rdt_Variation : RdD Tryz.prog 25 2 fun d => ∃ x : TVariation, d = x.D := rd2_imp (rd2_struct (ps := [⟨22, 1, _⟩, ⟨23, 1, _⟩]) Tryz.underlying25 (by kernel_rfl) ⟨rdt_AxisS, rdt_MasterS, trivial⟩ (by kernel_rfl) rfl)
  (by rintro d ⟨ds, rfl, h⟩; obtain ⟨_, _, rfl, ⟨x0, rfl⟩, ⟨_, _, rfl, ⟨x1, rfl⟩, rfl⟩⟩ := h; exact ⟨⟨x0, x1⟩, rfl⟩)
section
variable {α : Type} (f : α → D) (z : D) (xs : List α)
def fillL (k : Nat) : List D := (xs.take k).map f ++ List.replicate (xs.length - k) z
theorem fillL_zero : fillL f z xs 0 = List.replicate xs.length z := by simp [fillL]
theorem fillL_len (k : Nat) (h : k ≤ xs.length) : (fillL f z xs k).length = xs.length := by simp [fillL]; omega
theorem fillL_get {k : Nat} (h : k < xs.length) : (fillL f z xs k)[k]? = some z := by
  unfold fillL
  have hl : ((xs.take k).map f).length = k := by simp; omega
  rw [List.getElem?_append_right (by omega), hl, Nat.sub_self, List.getElem?_replicate, if_pos (by omega)]
theorem fillL_set {k : Nat} {x : α} (h : xs[k]? = some x) : (fillL f z xs k).set k (f x) = fillL f z xs (k + 1) := by
  have hk := (List.getElem?_eq_some_iff.1 h).1
  unfold fillL
  have e1 : xs.length - k = (xs.length - (k + 1)) + 1 := by omega
  rw [e1, List.replicate_succ]
  have hl : ((xs.take k).map f).length = k := by simp; omega
  rw [List.set_append_right _ _ (by omega), hl, Nat.sub_self, List.set_cons_zero, take_snoc_get h, List.map_append, List.append_assoc]
  rfl
theorem fillL_all : fillL f z xs xs.length = xs.map f := by simp [fillL]
end
theorem sum_mem {α : Type} (f : α → Nat) {xs : List α} {x : α} (h : x ∈ xs) : f x ≤ (xs.map f).sum := by
  obtain ⟨i, hi⟩ := List.getElem?_of_mem h
  exact sum_get f hi
end Go.Proofs.YtehndgkmpdlccaaGreat