/- slices.Concat, Grow, Clone, by the machine. -/
import Derived.Test.YtcachhipflibkaaGreatVMTac
import Derived.Test.YtcachhipflibkaaGreatTT
import Derived.Test.YtcachhipflibkaaGreatDt
import Derived.Test.YtcachhipflibkaaGreatGen
set_option linter.unusedSimpArgs false
set_option linter.unusedVariables false
namespace Go.Proofs.YtcachhipflibkaaGreat
open Go.RowKit
/-- how many elements lists of lists hold -/
def lenS {α : Type} : List (List α) → Nat
  | [] => 0
  | x :: xs => x.length + lenS xs
theorem lenS_app {α : Type} : ∀ xs ys : List (List α), lenS (xs ++ ys) = lenS xs + lenS ys
  | [], ys => by simp [lenS]
  | x :: xs, ys => by simp [lenS, lenS_app xs ys]; omega
theorem lenS_flat {α : Type} : ∀ xs : List (List α), xs.flatten.length = lenS xs
  | [] => rfl
  | x :: xs => by simp [lenS, lenS_flat xs]
theorem lenS_take {α : Type} (xs : List (List α)) (k : Nat) : lenS (xs.take k) ≤ lenS xs := by
  have := lenS_app (xs.take k) (xs.drop k)
  rw [List.take_append_drop] at this
  omega
theorem lenS_succ {α : Type} {xs : List (List α)} {k : Nat} {x : List α} (hx : xs[k]? = some x) : lenS (xs.take (k + 1)) = lenS (xs.take k) + x.length := by
  rw [take_snoc_get hx, lenS_app]; rfl
theorem growI_v (m : Nat) (hb : m ≤ 1000000) : PC Tryz.prog 201 [.nils, .d (.int .i64 m)] (.own 1 0 0) [.arr 1 (List.replicate m (D.int .i64 0)) true] := by
  refine pc_intro ttOk (by kernel_rfl) Tryz.func201 rfl (by kernel_rfl) (by kernel_rfl) (by kernel_rfl) (fun hw => ?_)
  (conv => whnf)
  (repeat' (first | (refine stg_ ?_) | (refine ZrW.atn m (by omega) (by omega) (by omega) (by (show m * 8 ≤ 140737488355328); omega) ?_; (conv => whnf)) | (refine br_ (fun hbr => ?_) (fun hbr => ?_))))
  all_goals first | (exfalso; omega) | skip
  · (refine ⟨⟨[some 1], ⟨by decide, rfl, trivial, trivial⟩, by decide, rfl, ?_⟩⟩; (conv => whnf); exact ⟨by decide, rfl⟩)
  · obtain rfl : m = 0 := by omega
    exact ⟨⟨[none], ⟨rfl, trivial⟩, by decide, rfl, by decide, rfl, rfl, rfl⟩⟩
set_option maxHeartbeats 2000000 in
theorem catI_v (xss : List (List Int)) (hb : lenS xss ≤ 1000000) : PC Tryz.prog 160 [.d (.lst (xss.map (lstD (D.int .i64))))] (.own 1 0 (lenS xss)) [.arr 1 (xss.flatten.map (D.int .i64)) true] := by
  refine pc_intro ttOk (by kernel_rfl) Tryz.func160 rfl (by kernel_rfl) (by kernel_rfl) (by kernel_rfl) (fun hw => ?_)
  have hL : (xss.map (lstD (D.int .i64))).length = xss.length := List.length_map _
  have hm : (xss.map (lstD (D.int .i64))).length ≤ 9223372036854775807 := hw.1.1
  (conv => whnf)
  refine LoopW.go (α := Nat) (fun k => [(0, .d (.lst (xss.map (lstD (D.int .i64))))), (2, .nils), (3, .d (.int .i64 (lenS (xss.take k)))), (9, .d (.lst (xss.map (lstD (D.int .i64))))), (10, .d (.int .i64 (xss.map (lstD (D.int .i64))).length)), (11, .d (.int .i64 k))]) (fun k => [.gone]) (fun k => k ≤ xss.length) (fun k => xss.length - k) 0 covT_ ?_ (fun k hk => ?_)
  · omega
  (conv => whnf)
  (refine br_ (fun h2 => ?_) (fun h2 => ?_) <;> (repeat (refine stg_ ?_)))
  · obtain ⟨x, hx⟩ := at_lt' (xs := xss) (k := k) (by omega)
    have hS := lenS_succ hx
    have hS2 := lenS_take xss (k + 1)
    have hxl : (x.map (D.int .i64)).length = x.length := List.length_map _
    (repeat' (first | (refine stg_ ?_) | fail | (refine br_ (fun hbr => ?_) (fun hbr => ?_))))
    all_goals first | (exfalso; omega) | (refine NextW.go (k + 1) (Weak.cov ⟨rfl, rfl, ?_, rfl, rfl, rfl, trivial⟩ ⟨trivial, trivial⟩ rfl) (by omega) (by omega); rw [hS, hxl]; rfl)
  · obtain rfl : k = xss.length := by omega
    rw [List.take_length] at *
    have c1 := growI_v (lenS xss) hb
    (repeat' (first | (refine stg_ ?_) | (refine cla_ (c1) ?_) | (refine br_ (fun hbr => ?_) (fun hbr => ?_))))
    refine LoopW.go (α := Nat) (fun k => [(0, .d (.lst (xss.map (lstD (D.int .i64))))), (6, .own 1 0 (lenS (xss.take k))), (25, .d (.lst (xss.map (lstD (D.int .i64))))), (26, .d (.int .i64 (xss.map (lstD (D.int .i64))).length)), (27, .d (.int .i64 k))]) (fun k => [.gone, .arr 1 ((xss.take k).flatten.map (D.int .i64)) true]) (fun k => k ≤ xss.length) (fun k => xss.length - k) 0 (Weak.trans (Weak.cut0 1 true rfl rfl) (Weak.cov ⟨rfl, rfl, rfl, rfl, rfl, trivial⟩ ⟨trivial, rfl, trivial⟩ rfl)) (by omega) (fun k hk => ?_)
    have hd : ((xss.take k).flatten.map (D.int .i64)).length = lenS (xss.take k) := by rw [List.length_map, lenS_flat]
    (conv => whnf)
    (refine br_ (fun h3 => ?_) (fun h3 => ?_) <;> (repeat (refine stg_ ?_)))
    · obtain ⟨x, hx⟩ := at_lt' (xs := xss) (k := k) (by omega)
      have hS := lenS_succ hx
      have hS2 := lenS_take xss (k + 1)
      have hxl : (x.map (D.int .i64)).length = x.length := List.length_map _
      have hF : (xss.take (k + 1)).flatten.map (D.int .i64) = (xss.take k).flatten.map (D.int .i64) ++ x.map (D.int .i64) := by rw [take_snoc_get hx, List.flatten_append, List.map_append]; simp
      (repeat' (first | (refine stg_ ?_) | fail | (refine br_ (fun hbr => ?_) (fun hbr => ?_))))
      refine NextW.go (k + 1) (Weak.cov ⟨rfl, ?_, rfl, rfl, rfl, trivial⟩ ⟨trivial, ?_, trivial⟩ rfl) (by omega) (by omega)
      · rw [hS, hxl]; rfl
      · rw [hF, ← hd, List.take_length]
    · obtain rfl : k = xss.length := by omega
      rw [List.take_length] at *
      (refine ⟨⟨[some 1], ⟨by decide, rfl, trivial, trivial⟩, by decide, rfl, ?_⟩⟩; (conv => whnf); exact ⟨by decide, rfl⟩)
theorem cloneI_v (xs : List Int) (hb : xs.length ≤ 1000000) : PC Tryz.prog 202 [.d (.lst (xs.map (D.int .i64)))] (.own 1 0 xs.length) [.arr 1 (xs.map (D.int .i64)) true] := by
  refine pc_intro ttOk (by kernel_rfl) Tryz.func202 rfl (by kernel_rfl) (by kernel_rfl) (by kernel_rfl) (fun hw => ?_)
  have hL : (xs.map (D.int .i64)).length = xs.length := List.length_map _
  (conv => whnf)
  (repeat' (first | (refine stg_ ?_) | (refine NlW.mk' (fun hnl => ?_) ?_) | (refine br_ (fun hbr => ?_) (fun hbr => ?_))))
  · obtain rfl : xs = [] := List.eq_nil_of_length_eq_zero (by omega)
    exact ⟨⟨[none], ⟨rfl, trivial⟩, by decide, rfl, by decide, rfl, rfl, rfl⟩⟩
  · refine ⟨⟨[some 1], ⟨by decide, rfl, trivial, trivial⟩, by decide, rfl, by decide, ?_⟩⟩
    show V.own 1 0 (0 + (xs.map (D.int .i64)).length) = _
    rw [Nat.zero_add, hL]
theorem growL_v (m : Nat) (hb : m ≤ 1000000) : PC Tryz.prog 200 [.nils, .d (.int .i64 m)] (.own 1 0 0) [.arr 1 (List.replicate m (D.lst [])) true] := by
  refine pc_intro ttOk (by kernel_rfl) Tryz.func200 rfl (by kernel_rfl) (by kernel_rfl) (by kernel_rfl) (fun hw => ?_)
  (conv => whnf)
  (repeat' (first | (refine stg_ ?_) | (refine ZrW.atn m (by omega) (by omega) (by omega) (by (show m * 24 ≤ 140737488355328); omega) ?_; (conv => whnf)) | (refine br_ (fun hbr => ?_) (fun hbr => ?_))))
  all_goals first | (exfalso; omega) | skip
  · (refine ⟨⟨[some 1], ⟨by decide, rfl, trivial, trivial⟩, by decide, rfl, ?_⟩⟩; (conv => whnf); exact ⟨by decide, rfl⟩)
  · obtain rfl : m = 0 := by omega
    exact ⟨⟨[none], ⟨rfl, trivial⟩, by decide, rfl, by decide, rfl, rfl, rfl⟩⟩
set_option maxHeartbeats 2000000 in
theorem catL_v (xss : List (List (List Int))) (hb : lenS xss ≤ 1000000) : PC Tryz.prog 159 [.d (.lst (xss.map (lstD (lstD (D.int .i64)))))] (.own 1 0 (lenS xss)) [.arr 1 (xss.flatten.map (lstD (D.int .i64))) false] := by
  refine pc_intro ttOk (by kernel_rfl) Tryz.func159 rfl (by kernel_rfl) (by kernel_rfl) (by kernel_rfl) (fun hw => ?_)
  have hL : (xss.map (lstD (lstD (D.int .i64)))).length = xss.length := List.length_map _
  have hm : (xss.map (lstD (lstD (D.int .i64)))).length ≤ 9223372036854775807 := hw.1.1
  (conv => whnf)
  refine LoopW.go (α := Nat) (fun k => [(0, .d (.lst (xss.map (lstD (lstD (D.int .i64)))))), (2, .nils), (3, .d (.int .i64 (lenS (xss.take k)))), (9, .d (.lst (xss.map (lstD (lstD (D.int .i64)))))), (10, .d (.int .i64 (xss.map (lstD (lstD (D.int .i64)))).length)), (11, .d (.int .i64 k))]) (fun k => [.gone]) (fun k => k ≤ xss.length) (fun k => xss.length - k) 0 covT_ ?_ (fun k hk => ?_)
  · omega
  (conv => whnf)
  (refine br_ (fun h2 => ?_) (fun h2 => ?_) <;> (repeat (refine stg_ ?_)))
  · obtain ⟨x, hx⟩ := at_lt' (xs := xss) (k := k) (by omega)
    have hS := lenS_succ hx
    have hS2 := lenS_take xss (k + 1)
    have hxl : (x.map (lstD (D.int .i64))).length = x.length := List.length_map _
    (repeat' (first | (refine stg_ ?_) | fail | (refine br_ (fun hbr => ?_) (fun hbr => ?_))))
    all_goals first | (exfalso; omega) | (refine NextW.go (k + 1) (Weak.cov ⟨rfl, rfl, ?_, rfl, rfl, rfl, trivial⟩ ⟨trivial, trivial⟩ rfl) (by omega) (by omega); rw [hS, hxl]; rfl)
  · obtain rfl : k = xss.length := by omega
    rw [List.take_length] at *
    have c1 := growL_v (lenS xss) hb
    (repeat' (first | (refine stg_ ?_) | (refine cla_ (c1) ?_) | (refine br_ (fun hbr => ?_) (fun hbr => ?_))))
    refine LoopW.go (α := Nat) (fun k => [(0, .d (.lst (xss.map (lstD (lstD (D.int .i64)))))), (6, .own 1 0 (lenS (xss.take k))), (25, .d (.lst (xss.map (lstD (lstD (D.int .i64)))))), (26, .d (.int .i64 (xss.map (lstD (lstD (D.int .i64)))).length)), (27, .d (.int .i64 k))]) (fun k => [.gone, .arr 1 ((xss.take k).flatten.map (lstD (D.int .i64))) false]) (fun k => k ≤ xss.length) (fun k => xss.length - k) 0 (Weak.trans (Weak.cut0 1 false rfl rfl) (Weak.cov ⟨rfl, rfl, rfl, rfl, rfl, trivial⟩ ⟨trivial, rfl, trivial⟩ rfl)) (by omega) (fun k hk => ?_)
    have hd : ((xss.take k).flatten.map (lstD (D.int .i64))).length = lenS (xss.take k) := by rw [List.length_map, lenS_flat]
    (conv => whnf)
    (refine br_ (fun h3 => ?_) (fun h3 => ?_) <;> (repeat (refine stg_ ?_)))
    · obtain ⟨x, hx⟩ := at_lt' (xs := xss) (k := k) (by omega)
      have hS := lenS_succ hx
      have hS2 := lenS_take xss (k + 1)
      have hxl : (x.map (lstD (D.int .i64))).length = x.length := List.length_map _
      have hF : (xss.take (k + 1)).flatten.map (lstD (D.int .i64)) = (xss.take k).flatten.map (lstD (D.int .i64)) ++ x.map (lstD (D.int .i64)) := by rw [take_snoc_get hx, List.flatten_append, List.map_append]; simp
      (repeat' (first | (refine stg_ ?_) | fail | (refine br_ (fun hbr => ?_) (fun hbr => ?_))))
      refine NextW.go (k + 1) (Weak.cov ⟨rfl, ?_, rfl, rfl, rfl, trivial⟩ ⟨trivial, ?_, trivial⟩ rfl) (by omega) (by omega)
      · rw [hS, hxl]; rfl
      · rw [hF, ← hd, List.take_length]
    · obtain rfl : k = xss.length := by omega
      rw [List.take_length] at *
      (refine ⟨⟨[some 1], ⟨by decide, rfl, trivial, trivial⟩, by decide, rfl, ?_⟩⟩; (conv => whnf); exact ⟨by decide, rfl⟩)
theorem growItem_v (m : Nat) (hb : m ≤ 1000000) : PC Tryz.prog 247 [.nils, .d (.int .i64 m)] (.own 1 0 0) [.arr 3 (List.replicate m (D.st [.int .i64 0, .int .i64 0, .int .i64 0])) true] := by
  refine pc_intro ttOk (by kernel_rfl) Tryz.func247 rfl (by kernel_rfl) (by kernel_rfl) (by kernel_rfl) (fun hw => ?_)
  (conv => whnf)
  (repeat' (first | (refine stg_ ?_) | (refine ZrW.atn m (by omega) (by omega) (by omega) (by (show m * 24 ≤ 140737488355328); omega) ?_; (conv => whnf)) | (refine br_ (fun hbr => ?_) (fun hbr => ?_))))
  all_goals first | (exfalso; omega) | skip
  · (refine ⟨⟨[some 1], ⟨by decide, rfl, trivial, trivial⟩, by decide, rfl, ?_⟩⟩; (conv => whnf); exact ⟨by decide, rfl⟩)
  · obtain rfl : m = 0 := by omega
    exact ⟨⟨[none], ⟨rfl, trivial⟩, by decide, rfl, by decide, rfl, rfl, rfl⟩⟩
set_option maxHeartbeats 2000000 in
theorem catItem_v (xss : List (List TItem)) (hb : lenS xss ≤ 1000000) : PC Tryz.prog 229 [.d (.lst (xss.map (lstD TItem.D)))] (.own 1 0 (lenS xss)) [.arr 3 (xss.flatten.map TItem.D) true] := by
  refine pc_intro ttOk (by kernel_rfl) Tryz.func229 rfl (by kernel_rfl) (by kernel_rfl) (by kernel_rfl) (fun hw => ?_)
  have hL : (xss.map (lstD TItem.D)).length = xss.length := List.length_map _
  have hm : (xss.map (lstD TItem.D)).length ≤ 9223372036854775807 := hw.1.1
  (conv => whnf)
  refine LoopW.go (α := Nat) (fun k => [(0, .d (.lst (xss.map (lstD TItem.D)))), (2, .nils), (3, .d (.int .i64 (lenS (xss.take k)))), (9, .d (.lst (xss.map (lstD TItem.D)))), (10, .d (.int .i64 (xss.map (lstD TItem.D)).length)), (11, .d (.int .i64 k))]) (fun k => [.gone]) (fun k => k ≤ xss.length) (fun k => xss.length - k) 0 covT_ ?_ (fun k hk => ?_)
  · omega
  (conv => whnf)
  (refine br_ (fun h2 => ?_) (fun h2 => ?_) <;> (repeat (refine stg_ ?_)))
  · obtain ⟨x, hx⟩ := at_lt' (xs := xss) (k := k) (by omega)
    have hS := lenS_succ hx
    have hS2 := lenS_take xss (k + 1)
    have hxl : (x.map TItem.D).length = x.length := List.length_map _
    (repeat' (first | (refine stg_ ?_) | fail | (refine br_ (fun hbr => ?_) (fun hbr => ?_))))
    all_goals first | (exfalso; omega) | (refine NextW.go (k + 1) (Weak.cov ⟨rfl, rfl, ?_, rfl, rfl, rfl, trivial⟩ ⟨trivial, trivial⟩ rfl) (by omega) (by omega); rw [hS, hxl]; rfl)
  · obtain rfl : k = xss.length := by omega
    rw [List.take_length] at *
    have c1 := growItem_v (lenS xss) hb
    (repeat' (first | (refine stg_ ?_) | (refine cla_ (c1) ?_) | (refine br_ (fun hbr => ?_) (fun hbr => ?_))))
    refine LoopW.go (α := Nat) (fun k => [(0, .d (.lst (xss.map (lstD TItem.D)))), (6, .own 1 0 (lenS (xss.take k))), (25, .d (.lst (xss.map (lstD TItem.D)))), (26, .d (.int .i64 (xss.map (lstD TItem.D)).length)), (27, .d (.int .i64 k))]) (fun k => [.gone, .arr 3 ((xss.take k).flatten.map TItem.D) true]) (fun k => k ≤ xss.length) (fun k => xss.length - k) 0 (Weak.trans (Weak.cut0 1 true rfl rfl) (Weak.cov ⟨rfl, rfl, rfl, rfl, rfl, trivial⟩ ⟨trivial, rfl, trivial⟩ rfl)) (by omega) (fun k hk => ?_)
    have hd : ((xss.take k).flatten.map TItem.D).length = lenS (xss.take k) := by rw [List.length_map, lenS_flat]
    (conv => whnf)
    (refine br_ (fun h3 => ?_) (fun h3 => ?_) <;> (repeat (refine stg_ ?_)))
    · obtain ⟨x, hx⟩ := at_lt' (xs := xss) (k := k) (by omega)
      have hS := lenS_succ hx
      have hS2 := lenS_take xss (k + 1)
      have hxl : (x.map TItem.D).length = x.length := List.length_map _
      have hF : (xss.take (k + 1)).flatten.map TItem.D = (xss.take k).flatten.map TItem.D ++ x.map TItem.D := by rw [take_snoc_get hx, List.flatten_append, List.map_append]; simp
      (repeat' (first | (refine stg_ ?_) | fail | (refine br_ (fun hbr => ?_) (fun hbr => ?_))))
      refine NextW.go (k + 1) (Weak.cov ⟨rfl, ?_, rfl, rfl, rfl, trivial⟩ ⟨trivial, ?_, trivial⟩ rfl) (by omega) (by omega)
      · rw [hS, hxl]; rfl
      · rw [hF, ← hd, List.take_length]
    · obtain rfl : k = xss.length := by omega
      rw [List.take_length] at *
      (refine ⟨⟨[some 1], ⟨by decide, rfl, trivial, trivial⟩, by decide, rfl, ?_⟩⟩; (conv => whnf); exact ⟨by decide, rfl⟩)
theorem cloneItem_v (xs : List TItem) (hb : xs.length ≤ 1000000) : PC Tryz.prog 142 [.d (.lst (xs.map TItem.D))] (.own 1 0 xs.length) [.arr 3 (xs.map TItem.D) true] := by
  refine pc_intro ttOk (by kernel_rfl) Tryz.func142 rfl (by kernel_rfl) (by kernel_rfl) (by kernel_rfl) (fun hw => ?_)
  have hL : (xs.map TItem.D).length = xs.length := List.length_map _
  (conv => whnf)
  (repeat' (first | (refine stg_ ?_) | (refine NlW.mk' (fun hnl => ?_) ?_) | (refine br_ (fun hbr => ?_) (fun hbr => ?_))))
  · obtain rfl : xs = [] := List.eq_nil_of_length_eq_zero (by omega)
    exact ⟨⟨[none], ⟨rfl, trivial⟩, by decide, rfl, by decide, rfl, rfl, rfl⟩⟩
  · refine ⟨⟨[some 1], ⟨by decide, rfl, trivial, trivial⟩, by decide, rfl, by decide, ?_⟩⟩
    show V.own 1 0 (0 + (xs.map TItem.D).length) = _
    rw [Nat.zero_add, hL]

end Go.Proofs.YtcachhipflibkaaGreat
