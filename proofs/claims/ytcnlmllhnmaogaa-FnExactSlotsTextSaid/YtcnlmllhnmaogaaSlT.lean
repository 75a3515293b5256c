/- SlotsText, both, by the machine. -/
import Derived.Test.YtcnlmllhnmaogaaSlV
import Derived.Test.YtcnlmllhnmaogaaBldS
import Derived.Test.YtcnlmllhnmaogaaDec
set_option linter.unusedSimpArgs false
set_option linter.unusedVariables false
namespace Go.Proofs.Ytcnlmllhnmaogaa
open Go.RowKit
def lineL (x : TSlot) : List UInt8 := decS x.fGlyph ++ [32] ++ decS x.fX ++ [32] ++ decS x.fY ++ [32] ++ decS x.fAdvance ++ [32] ++ decS x.fFrom ++ [32] ++ decS x.fLen ++ [10]
def slotsL (xs : List TSlot) : List UInt8 := xs.flatMap lineL
theorem slotsL_succ {xs : List TSlot} {k : Nat} {x : TSlot} (hx : xs[k]? = some x) : slotsL (xs.take (k + 1)) = slotsL (xs.take k) ++ lineL x := by
  rw [slotsL, take_snoc_get hx, List.flatMap_append]; simp [slotsL]
theorem decS_len {n : Int} (h1 : -9223372036854775808 ≤ n) (h2 : n ≤ 9223372036854775807) : (decS n).length ≤ 21 := by
  have := decB_size n (natAbs_bnd h1 h2)
  rwa [decB, mkS_size] at this
theorem slB_in {x : TSlot} (h : slB x = true) : (decS x.fGlyph).length ≤ 21 ∧ (decS x.fX).length ≤ 21 ∧ (decS x.fY).length ≤ 21 ∧ (decS x.fAdvance).length ≤ 21 ∧ (decS x.fFrom).length ≤ 21 ∧ (decS x.fLen).length ≤ 21 := by
  simp only [slB, snB, Bool.and_eq_true, decide_eq_true_eq] at h
  refine ⟨?_, ?_, ?_, ?_, ?_, ?_⟩ <;> exact decS_len (by omega) (by omega)
theorem lineL_len {x : TSlot} (h : slB x = true) : (lineL x).length ≤ 132 := by
  obtain ⟨a, b, c, d, e, f⟩ := slB_in h
  simp only [lineL, List.length_append, List.length_cons, List.length_nil]
  omega
theorem slotsL_len : ∀ {xs : List TSlot}, xs.all slB = true → (slotsL xs).length ≤ 132 * xs.length
  | [], _ => by simp [slotsL]
  | x :: xs, h => by
    simp only [List.all_cons, Bool.and_eq_true] at h
    have h1 := lineL_len h.1
    have h2 := slotsL_len h.2
    simp only [slotsL, List.flatMap_cons, List.length_append, List.length_cons] at *
    omega
theorem all_take {xs : List TSlot} (h : xs.all slB = true) (k : Nat) : (xs.take k).all slB = true := by
  rw [List.all_eq_true] at h ⊢
  exact fun x hx => h x (List.mem_of_mem_take hx)
theorem allSl_at {xs : List TSlot} (h : xs.all slB = true) {k : Nat} {x : TSlot} (hx : xs[k]? = some x) : slB x = true := List.all_eq_true.1 h x (List.mem_of_getElem? hx)
theorem szB (c : UInt8) : ByteArray.size ⟨#[c]⟩ = 1 := rfl
theorem bsz (s : ByteArray) : (s.data.toList.map bD).length = s.size := by rw [List.length_map, Array.length_toList]; rfl
theorem decB_toList (n : Int) : (decB n).data.toList = decS n := by rw [decB, mkS_toList]
theorem decB_sz2 (n : Int) : (decB n).size = (decS n).length := by rw [decB, mkS_size]
def slT (xs : List TSlot) : ByteArray := if xs.all slB = true then mkS (slotsL xs) else .empty
set_option maxHeartbeats 2000000 in
theorem specSlotsText_v (xs : List TSlot) (hz : xs.length ≤ 1048576) : PC Try.prog 33 [.d (.lst (xs.map TSlot.D))] (.d (.str (slT xs))) [] := by
  refine pc_intro ttOk (by kernel_rfl) Try.func33 rfl (by kernel_rfl) (by kernel_rfl) (by kernel_rfl) (fun hw => ?_)
  have hL : (xs.map TSlot.D).length = xs.length := List.length_map _
  have hT : slT xs = if xs.all slB = true then mkS (slotsL xs) else .empty := rfl
  generalize slT xs = T at *
  (conv => whnf)
  (refine cl_ (l27Ok_v xs) ?_)
  (refine br_ (fun h1 => ?_) (fun h1 => ?_) <;> (repeat (refine stg_ ?_)))
  · rw [h1, if_neg (by decide)] at hT
    subst hT
    (refine RetOK.d rfl rfl ?_; conv => whnf)
    rfl
  · rw [if_pos h1] at hT
    subst hT
    refine LoopW.go (α := Nat) (fun k => [(0, .d (.lst (xs.map TSlot.D))), (3, .own 1 0 ((slotsL (xs.take k)).map bD).length), (4, .d (.int .i64 k))]) (fun k => [.gone, .arr 1 ((slotsL (xs.take k)).map bD) true]) (fun k => k ≤ xs.length) (fun k => xs.length - k) 0 covT_ (by omega) (fun k hk => ?_)
    have hlen := slotsL_len (all_take h1 k)
    have hlen2 : ((slotsL (xs.take k)).map bD).length = (slotsL (xs.take k)).length := List.length_map _
    have htk : (xs.take k).length ≤ xs.length := by simp; omega
    (conv => whnf)
    (refine br_ (fun h2 => ?_) (fun h2 => ?_) <;> (repeat (refine stg_ ?_)))
    · obtain ⟨x, hx⟩ := at_lt' (xs := xs) (k := k) (by omega)
      have hb := slB_in (allSl_at h1 hx)
      have he : (xs.map TSlot.D)[k]? = some x.D := by rw [List.getElem?_map, hx]; rfl
      (repeat' (first | (refine stg_ ?_) | (refine cl_ (l01Dec_v _) ?_) | (refine CatW.at (by show _ ≤ 9223372036854775807; simp only [ByteArray.size_append, decB_sz2, szB]; omega) ?_; conv => whnf) | (refine br_ (fun hbr => ?_) (fun hbr => ?_))))
      have hl : (decB x.fGlyph ++ ⟨#[32]⟩ ++ decB x.fX ++ ⟨#[32]⟩ ++ decB x.fY ++ ⟨#[32]⟩ ++ decB x.fAdvance ++ ⟨#[32]⟩ ++ decB x.fFrom ++ ⟨#[32]⟩ ++ decB x.fLen ++ ⟨#[10]⟩).data.toList = lineL x := by
        simp [lineL, decB]
        simp [mkS]
      rw [hl]
      have hll := lineL_len (allSl_at h1 hx)
      refine ApW.at (by rw [List.length_map, List.length_map]; show _ ≤ 9223372036854775807; omega) (by rw [List.length_map, List.length_map]; show _ * 1 ≤ _; omega) ?_
      (conv => whnf)
      (repeat (refine stg_ ?_))
      refine NextW.go (k + 1) (Weak.cov ⟨rfl, ?_, rfl, trivial⟩ ⟨trivial, ?_, trivial⟩ rfl) (by omega) (by omega)
      · rw [slotsL_succ hx, List.map_append, List.length_append]; rfl
      · rw [slotsL_succ hx, List.map_append, List.take_length]
    · obtain rfl : k = xs.length := by omega
      rw [List.take_length] at *
      (try (refine stg_ ?_))
      refine StW.at (s := mkS (slotsL xs)) (by rw [mkS_toList, List.drop_zero, List.take_length]) ?_
      (conv => whnf)
      (refine RetOK.d rfl rfl ?_; conv => whnf)
theorem fields6 (x : TSlot) (i : Nat) : i < 6 → ∃ n, [x.fGlyph, x.fX, x.fY, x.fAdvance, x.fFrom, x.fLen][i]? = some n := fun h => at_lt (by simpa using h)
/-- a part of a line -/
def pL (ys : List Int) : Nat → List UInt8
  | 0 => []
  | i + 1 => pL ys i ++ (if i = 0 then [] else [32]) ++ decS (ys.getD i 0)
theorem pL_six (x : TSlot) : pL [x.fGlyph, x.fX, x.fY, x.fAdvance, x.fFrom, x.fLen] 6 ++ [10] = lineL x := by
  simp [pL, lineL]
theorem pL_len {ys : List Int} (h : ∀ y ∈ ys, (decS y).length ≤ 21) : ∀ i, i ≤ ys.length → (pL ys i).length ≤ 22 * i
  | 0, _ => by simp [pL]
  | i + 1, hi => by
    have := pL_len h i (by omega)
    have h2 := h (ys.getD i 0) (by rw [List.getD_eq_getElem?_getD, List.getElem?_eq_getElem (by omega)]; simp)
    simp only [pL, List.length_append]
    generalize (decS (ys.getD i 0)).length = q at *
    split <;> simp only [List.length_nil, List.length_cons] <;> omega
set_option maxHeartbeats 2000000 in
theorem SlotsText_v (xs : List TSlot) (hz : xs.length ≤ 1048576) : PC Try.prog 34 [.d (.lst (xs.map TSlot.D))] (.d (.str (slT xs))) [] := by
  refine pc_intro ttOk (by kernel_rfl) Try.func34 rfl (by kernel_rfl) (by kernel_rfl) (by kernel_rfl) (fun hw => ?_)
  have hL : (xs.map TSlot.D).length = xs.length := List.length_map _
  have hT : slT xs = if xs.all slB = true then mkS (slotsL xs) else .empty := rfl
  generalize slT xs = T at *
  (conv => whnf)
  (refine cl_ (smallSlots_v xs) ?_)
  (refine br_ (fun h1 => ?_) (fun h1 => ?_) <;> (repeat (refine stg_ ?_)))
  · rw [h1, if_neg (by decide)] at hT
    subst hT
    (refine RetOK.d rfl rfl ?_; conv => whnf)
    rfl
  · rw [if_pos h1] at hT
    subst hT
    refine LoopW.go (α := Nat) (fun k => [(3, .pB 1 [] 0), (11, .d (.lst (xs.map TSlot.D))), (12, .d (.int .i64 xs.length)), (13, .d (.int .i64 k))]) (fun k => [.gone, .bld 85 5 (slotsL (xs.take k))]) (fun k => k ≤ xs.length) (fun k => xs.length - k) 0 (Weak.cov ⟨rfl, rfl, by rw [← hL]; rfl, rfl, trivial⟩ ⟨trivial, rfl, trivial⟩ rfl) (by omega) (fun k hk => ?_)
    have hlen := slotsL_len (all_take h1 k)
    have htk : (xs.take k).length ≤ xs.length := by simp; omega
    (conv => whnf)
    (refine br_ (fun h2 => ?_) (fun h2 => ?_) <;> (repeat (refine stg_ ?_)))
    · obtain ⟨x, hx⟩ := at_lt' (xs := xs) (k := k) (by omega)
      have hb := slB_in (allSl_at h1 hx)
      have he : (xs.map TSlot.D)[k]? = some x.D := by rw [List.getElem?_map, hx]; rfl
      (repeat' (first | (refine stg_ ?_) | (refine cla_ (fields_v x) ?_) | (refine br_ (fun hbr => ?_) (fun hbr => ?_))))
      have h6 : ∀ y ∈ [x.fGlyph, x.fX, x.fY, x.fAdvance, x.fFrom, x.fLen], (decS y).length ≤ 21 := by
        obtain ⟨a, b, c, d, e, f⟩ := hb
        intro y hy
        simp only [List.mem_cons, List.not_mem_nil, or_false] at hy
        rcases hy with rfl | rfl | rfl | rfl | rfl | rfl <;> assumption
      generalize hys : [x.fGlyph, x.fX, x.fY, x.fAdvance, x.fFrom, x.fLen] = ys at *
      have hyl : ys.length = 6 := by rw [← hys]; rfl
      have hyl2 : (ys.map (D.int .i64)).length = 6 := by rw [List.length_map]; exact hyl
      refine LoopW.go (α := Nat) (fun i => [(3, .pB 1 [] 0), (11, .d (.lst (xs.map TSlot.D))), (12, .d (.int .i64 xs.length)), (13, .d (.int .i64 k)), (18, .own 3 0 6), (19, .d (.int .i64 6)), (20, .d (.int .i64 i))]) (fun i => [.gone, .bld 85 5 (slotsL (xs.take k) ++ pL ys i), .gone, .arr 1 (ys.map (D.int .i64)) true]) (fun i => i ≤ 6) (fun i => 6 - i) 0 (Weak.cov ⟨rfl, rfl, rfl, rfl, rfl, rfl, rfl, trivial⟩ ⟨trivial, by rw [pL, List.append_nil], trivial, rfl, trivial⟩ rfl) (by omega) (fun i hi => ?_)
      have hpl := pL_len h6 i (by omega)
      (conv => whnf)
      (refine br_ (fun h3 => ?_) (fun h3 => ?_) <;> (repeat (refine stg_ ?_)))
      · obtain ⟨n, hn⟩ := at_lt (xs := ys) (k := i) (by omega)
        have he2 : (ys.map (D.int .i64))[i]? = some (.int .i64 n) := by rw [List.getElem?_map, hn]; rfl
        have hdn := h6 n (List.mem_of_getElem? hn)
        have hgd : ys.getD i 0 = n := by simp [List.getD_eq_getElem?_getD, hn]
        have c1 := wb_b (slotsL (xs.take k) ++ pL ys i) 32 (by rw [List.length_append]; omega)
        have c2 := ws_b (slotsL (xs.take k) ++ pL ys i ++ [32]) (decB n) (by rw [decB_sz2]; simp only [List.length_append, List.length_cons, List.length_nil]; omega)
        have c3 := ws_b (slotsL (xs.take k) ++ pL ys i) (decB n) (by rw [decB_sz2]; simp only [List.length_append]; omega)
        rw [decB_toList] at c2 c3
        have c4 := Decimal_v n
        (repeat (refine stg_ ?_))
        (refine br_ (fun h4 => ?_) (fun h4 => ?_))
        · (repeat' (first | (refine stg_ ?_) | (refine clb_ (c1) ?_) | (refine clb_ (c2) ?_) | (refine cla_ (c4) ?_) | (refine br_ (fun hbr => ?_) (fun hbr => ?_))))
          refine NextW.go (i + 1) (Weak.cov ⟨rfl, rfl, rfl, rfl, rfl, rfl, rfl, trivial⟩ ⟨trivial, ?_, trivial, rfl, trivial⟩ rfl) (by omega) (by omega)
          rw [pL, if_neg (by omega), hgd]
          simp only [List.append_assoc]
        · (repeat' (first | (refine stg_ ?_) | (refine clb_ (c3) ?_) | (refine cla_ (c4) ?_) | (refine br_ (fun hbr => ?_) (fun hbr => ?_))))
          refine NextW.go (i + 1) (Weak.cov ⟨rfl, rfl, rfl, rfl, rfl, rfl, rfl, trivial⟩ ⟨trivial, ?_, trivial, rfl, trivial⟩ rfl) (by omega) (by omega)
          obtain rfl : i = 0 := by omega
          have hp1 : pL ys (0 + 1) = decS n := by rw [pL, hgd]; simp [pL]
          show Blk.bld _ _ _ = Blk.bld _ _ _
          rw [hp1, pL, List.append_nil]
      · obtain rfl : i = 6 := by omega
        have c1 := wb_b (slotsL (xs.take k) ++ pL ys 6) 10 (by rw [List.length_append]; omega)
        (repeat' (first | (refine stg_ ?_) | (refine clb_ (c1) ?_) | (refine br_ (fun hbr => ?_) (fun hbr => ?_))))
        refine NextW.go (k + 1) (Weak.cov ⟨rfl, rfl, rfl, rfl, trivial⟩ ⟨trivial, ?_, trivial⟩ rfl) (by omega) (by omega)
        rw [slotsL_succ hx, ← pL_six, hys]
        simp only [List.append_assoc]
    · obtain rfl : k = xs.length := by omega
      rw [List.take_length] at *
      (refine clb_ (str_b _) ?_)
      (repeat (refine stg_ ?_))
      (refine RetOK.d rfl rfl ?_; conv => whnf)
      rfl
end Go.Proofs.Ytcnlmllhnmaogaa
