/- merged: several parts in one text. Leans on no more than they do. -/
import Derived.Test.YtpdeibhedafcfaaGreatDoorRvX
import Derived.Test.YtpdeibhedafcfaaGreatDoorVgP
import Derived.Test.YtpdeibhedafcfaaGreatDoorRvP
import Derived.Test.YtpdeibhedafcfaaGreatDoorLVBase
import Derived.Test.YtpdeibhedafcfaaGreatDoorVMTac
import Derived.Test.YtpdeibhedafcfaaGreatDoorVMK
set_option linter.unusedSimpArgs false
set_option linter.unusedVariables false
namespace Go.Proofs.YtpdeibhedafcfaaGreatDoor
open Go.RowKit
theorem pkR_bad {us : List ByteArray} {w : ByteArray} (hus : us = spB 58 w) {q : List Int} (h : rnL us = some q) (hl : q.length ≠ 3) : pkR w = none := by
 rw [pkR, ← hus, h]
 match q, hl with
 | [], _ => rfl
 | [_], _ => rfl
 | [_, _], _ => rfl
 | [_, _, _], h => exact absurd rfl h
 | _ :: _ :: _ :: _ :: _, _ => rfl
theorem Weak.nilR {e : Env} {h : List Blk} (b : Nat) {x : V} (hb : h[b]? = some (.box (.st [x, .nils]))) (hb0 : Nat.ble 1 b = true) : Weak e h e (h.set b (.box (.st [x, .d nilC]))) :=
 Weak.box b (v := .st [x, .nils]) (v' := .st [x, .d nilC]) hb hb0 (fun w M h' cs H => by
  obtain ⟨c1, c2, e1, h1, c3, c4, e2, h3, h4⟩ := H
  refine ⟨c1, c2, e1, h1, c3, c4, e2, ?_, h4⟩
  have : c3 = [.slice none 0 0] := h3
  subst this
  exact ⟨rfl, rfl⟩)
def trL18 : OT := .q 0 (.q 1 (.q 2 (.q 3 (.q 4 (.q 5 (.q 6 (.q 7 (.q 8 (.q 9 (.q 10 (.alt 11 (.alt 12 (.alt 13 (.q 14 (.alt 15 .done .nil)) .nil) .nil) .nil)))))))))))
def trL20 : OT := .q 0 (.q 1 (.q 2 (.q 3 (.q 4 (.q 5 (.alt 6 (.alt 7 (.q 8 (.q 9 (.alt 10 .done .nil))) .nil) .nil))))))
set_option maxRecDepth 100000 in
set_option maxHeartbeats 8000000 in
theorem rvl_ma (s : ByteArray) (ls : List ByteArray) (k : Nat) (v : TVariation) (w kd rest : ByteArray) (more : Bool) (r : List ByteArray) {e : Env} (he : cov e [(0, .d (.str s)), (2, .pB 1 [] 0), (6, .pB 3 [] 0), (17, .own 2 0 ls.length), (18, .d (.int .i64 ls.length)), (19, .d (.int .i64 ((k : Nat) : Int)))]) (hw1 : w.size ≤ 1048576) (hr1 : rest.size ≤ 1048576) (hn1 : v.fMasters.length ≤ 1048577)
  (hc : PC Tryz.prog 56 [.d (.str w), .d (.str ⟨#[32]⟩)] (.tup [.d (.str kd), .d (.str rest), .d (.bool more)]) []) (hA : ¬ kd.toList = (⟨#[97, 120, 105, 115]⟩ : ByteArray).toList) (hk : kd.toList = (⟨#[109, 97, 115, 116, 101, 114]⟩ : ByteArray).toList)
  (hr0 : more = false → r = []) (hr2 : more = true → r = spB 32 rest)
  (hstp : stp v w = match mapO pkR r with | some ps => some ⟨v.fAxes, v.fMasters ++ [⟨ps, []⟩]⟩ | none => none) :
  CallM Tryz.prog 20 [.pB 3 [] 0, .d (.str w)] e [.gone, .box (.st [.nils, .nils]), .arr 1 (ls.map D.str) true, .box (.st [.own 4 0 (v).fAxes.length, .own 5 0 (v).fMasters.length]), .arr 5 ((v).fAxes.map TAxis.D) true, .arr 2 ((v).fMasters.map mR) true] (RvK s ls k v w) := by
 (refine CallM.inl ttOk (by kernel_rfl) Tryz.func20 rfl (by kernel_rfl) (by kernel_rfl) (by rfl) [(0, .d (.str s)), (2, .pB 1 [] 0), (6, .pB 3 [] 0), (17, .own 2 0 ls.length), (18, .d (.int .i64 ls.length)), (19, .d (.int .i64 ((k : Nat) : Int)))] (cov_get _ he) (fun s0 => ?_); (conv => whnf))
 have c1 := Split_v rest ⟨#[32]⟩ 32 rfl hr1 rfl (by rw [← bTl, ← bTl]; rfl)
 have hd : (v.fMasters.map mR).length = v.fMasters.length := List.length_map _
 have hl : rest.data.toList.length = rest.size := Array.length_toList
 have hcl := List.count_le_length (a := (32 : UInt8)) (l := rest.data.toList)
 have hsn := spB_len 32 rest
 have hrn : r.length ≤ 1048577 := by
  cases more
  ·rw [hr0 rfl]; simp
  ·rw [hr2 rfl]; omega
 have hrz : ∀ x ∈ r, x.size ≤ 1048576 := fun x hx => by
  cases more
  ·rw [hr0 rfl] at hx; simp at hx
  ·rw [hr2 rfl] at hx; exact Nat.le_trans (spB_le 32 rest x hx) hr1
 have hLr : (r.map D.str).length = r.length := List.length_map _
 cases more
 all_goals
  repeat' (first | ((fail_if_success (with_reducible apply RegD.id)); (refine stg_ ?_)) | (refine cla_ (hc) ?_) | (refine cla_ (c1) ?_) | (refine br_ (fun hbr => ?_) (fun hbr => ?_); rotate_left; (focus (exfalso; exact hbr hk))) | (refine br_ (fun hbr => ?_) (fun hbr => ?_); (focus (exfalso; exact hA hbr))))
 rotate_left
 ·obtain rfl := hr2 rfl
  refine LoopW.go (α := Nat × List TPeak) (fun p => [(0, .pB 3 [] 0), (11, .pB 8 [] 0), (50, .d (.lst ((spB 32 rest).map D.str))), (51, .d (.int .i64 (spB 32 rest).length)), (52, .d (.int .i64 p.1))]) (fun p => [.gone, .box (.st [.nils, .nils]), .arr 1 (ls.map D.str) true, .box (.st [.own 4 0 v.fAxes.length, .own 5 0 v.fMasters.length]), .arr 5 (v.fAxes.map TAxis.D) true, .arr 2 (v.fMasters.map mR) true, .keep [(0, .d (.str s)), (2, .pB 1 [] 0), (6, .pB 3 [] 0), (17, .own 2 0 ls.length), (18, .d (.int .i64 ls.length)), (19, .d (.int .i64 ((k : Nat) : Int)))] s0, .gone, .box (.st [.own 9 0 p.2.length, .d nilC]), .arr 3 (p.2.map TPeak.D) true]) (fun p => p.1 ≤ (spB 32 rest).length ∧ mapO pkR ((spB 32 rest).take p.1) = some p.2) (fun p => (spB 32 rest).length - p.1) (0, [])
   (Weak.trans (Weak.adoptM 8 [] [.nils] rfl rfl 3 true) (Weak.trans (Weak.nilR 8 rfl rfl) (Weak.trans (Weak.freezeA 50 rfl rfl rfl (List.length_map _).symm) (Weak.cov ?_ ?_ ?_)))) ⟨by simp, rfl⟩ ?_
  ·exact cv_
  ·exact cv_
  ·rfl
  generalize spB 32 rest = r at *
  rintro ⟨j, ps⟩ ⟨k1, k2⟩
  dsimp only at k1 k2 ⊢
  have hpl := mapO_len k2
  rw [List.length_take] at hpl
  have hdp : (ps.map TPeak.D).length = ps.length := List.length_map _
  (conv => whnf)
  (repeat (refine stg_ ?_))
  (refine br_ (fun h3 => ?_) (fun h3 => ?_))
  ·obtain ⟨x, hx⟩ := at_lt' (xs := r) (k := j) (by omega)
   have hex : (r.map D.str)[j]? = some (.str x) := by rw [List.getElem?_map, hx]; rfl
   have hxz := hrz x (List.mem_of_getElem? hx)
   have c2 := Split_v x ⟨#[58]⟩ 58 rfl hxz rfl (by rw [← bTl, ← bTl]; rfl)
   have hxl : x.data.toList.length = x.size := Array.length_toList
   have hxc := List.count_le_length (a := (58 : UInt8)) (l := x.data.toList)
   have hxn := spB_len 58 x
   have hpk : pkR x = match rnL (spB 58 x) with
    | some [a, b, c] => some ⟨a, b, c⟩
    | _ => none := rfl
   obtain ⟨us, hus⟩ : ∃ us, us = spB 58 x := ⟨_, rfl⟩
   rw [← hus] at c2 hxn hpk
   have hbad : pkR x = none → stp v w = none := fun h => by rw [hstp, mapO_bad hx h]
   have hLu : (us.map D.str).length = us.length := List.length_map _
   rcases hq : rnL us with _ | q
   ·have c3 := readNumbers_v us (by omega) _ _ (fun ns h => by rw [hq] at h; cases h) (fun _ => ⟨rfl, rfl⟩)
    have hno := hbad (by rw [hpk, hq])
    (repeat' (first | (refine stg_ ?_) | (refine cla_ (c2) ?_) | (refine cla_ (c3) ?_) | (refine br_ (fun hbr => ?_) (fun hbr => ?_))))
    all_goals try (exfalso; simp_all; done)
    all_goals ((refine And.intro rfl ?_; (conv => whnf)); refine .inr ⟨rfl, hno, ?_⟩; (refine Weak.cov ?_ ?_ ?_; (focus exact cv_); (focus exact cv_); (focus rfl)))
   have c3 := readNumbers_v us (by omega) (.tup [.own 1 0 q.length, .d (.bool true)]) [.arr 1 (q.map (D.int .i64)) true] (fun ns h => by rw [hq] at h; cases h; exact ⟨rfl, rfl⟩) (fun h => by rw [hq] at h; cases h)
   by_cases hq3 : q.length = 3
   rotate_left
   ·have hno := hbad (pkR_bad hus hq hq3)
    (repeat' (first | (refine stg_ ?_) | (refine cla_ (c2) ?_) | (refine cla_ (c3) ?_) | (refine br_ (fun hbr => ?_) (fun hbr => ?_))))
    all_goals try (exfalso; omega)
    all_goals ((refine And.intro rfl ?_; (conv => whnf)); refine .inr ⟨rfl, hno, ?_⟩; (refine Weak.cov ?_ ?_ ?_; (focus exact cv_); (focus exact cv_); (focus rfl)))
   obtain ⟨a, b, c, rfl⟩ : ∃ a b c, q = [a, b, c] := by
    match q, hq3 with
    | [a, b, c], _ => exact ⟨a, b, c, rfl⟩
   have f0 : ([a, b, c].map (D.int .i64))[0]? = some (.int .i64 a) := rfl
   have f1 : ([a, b, c].map (D.int .i64))[1]? = some (.int .i64 b) := rfl
   have f2 : ([a, b, c].map (D.int .i64))[2]? = some (.int .i64 c) := rfl
   rw [hq] at hpk
   repeat' (first | ((fail_if_success (with_reducible apply RegD.id)); (refine stg_ ?_)) | (refine cla_ (c2) ?_) | (refine cla_ (c3) ?_) | (refine br_ (fun hbr => ?_) (fun hbr => ?_); (focus (exfalso; omega))))
   have hps : (ps ++ [(⟨a, b, c⟩ : TPeak)]).length = ps.length + 1 := by simp
   have hap : (ps.map TPeak.D).take ps.length ++ [TPeak.D ⟨a, b, c⟩] = (ps ++ [(⟨a, b, c⟩ : TPeak)]).map TPeak.D := by
    rw [List.take_of_length_le (by omega), List.map_append]; rfl
   refine RegD.cutT [(0, .pB 3 [] 0), (11, .pB 8 [] 0), (50, .d (.lst (r.map D.str))), (51, .d (.int .i64 r.length)), (52, .d (.int .i64 ((j : Nat) : Int)))] [.gone, .box (.st [.nils, .nils]), .arr 1 (ls.map D.str) true, .box (.st [.own 4 0 v.fAxes.length, .own 5 0 v.fMasters.length]), .arr 5 (v.fAxes.map TAxis.D) true, .arr 2 (v.fMasters.map mR) true, .keep [(0, .d (.str s)), (2, .pB 1 [] 0), (6, .pB 3 [] 0), (17, .own 2 0 ls.length), (18, .d (.int .i64 ls.length)), (19, .d (.int .i64 ((k : Nat) : Int)))] s0, .gone, .box (.st [.own 9 0 (ps ++ [(⟨a, b, c⟩ : TPeak)]).length, .d nilC]), .arr 3 ((ps ++ [(⟨a, b, c⟩ : TPeak)]).map TPeak.D) true] trL18 (by kernel_rfl) ?_ ?_
   ·(conv => whnf)
    rw [hps, ← hap]
    repeat' (first | (refine stg_ ?_) | (refine And.intro ?_ ?_ <;> (conv => whnf)))
    all_goals (refine Weak.cov ?_ ?_ ?_; (focus exact cv_); (focus exact cv_); (focus rfl))
   (conv => whnf)
   (repeat (refine stg_ ?_))
   exact NextW.go (j + 1, ps ++ [⟨a, b, c⟩]) covT_ ⟨by dsimp only; omega, by dsimp only; rw [take_snoc_get hx]; exact mapO_snoc k2 hpk⟩ (by dsimp only; omega)
  ·have hj : j = r.length := by omega
   rw [hj, List.take_length] at k2
   rw [k2] at hstp
   (repeat ((fail_if_success (with_reducible apply RegD.id)); (refine stg_ ?_)))
   have hms : (v.fMasters ++ [(⟨ps, []⟩ : TMaster)]).length = v.fMasters.length + 1 := by simp
   have hap : (v.fMasters.map mR).take v.fMasters.length ++ [mR ⟨ps, []⟩] = (v.fMasters ++ [(⟨ps, []⟩ : TMaster)]).map mR := by
    rw [List.take_of_length_le (by omega), List.map_append]; rfl
   refine RegD.cutT [] [.gone, .box (.st [.nils, .nils]), .arr 1 (ls.map D.str) true, .box (.st [.own 4 0 v.fAxes.length, .own 5 0 (v.fMasters ++ [(⟨ps, []⟩ : TMaster)]).length]), .arr 5 (v.fAxes.map TAxis.D) true, .arr 2 ((v.fMasters ++ [(⟨ps, []⟩ : TMaster)]).map mR) true, .keep [(0, .d (.str s)), (2, .pB 1 [] 0), (6, .pB 3 [] 0), (17, .own 2 0 ls.length), (18, .d (.int .i64 ls.length)), (19, .d (.int .i64 ((k : Nat) : Int)))] s0] trL20 (by kernel_rfl) ?_ ?_
   ·(conv => whnf)
    rw [hms, ← hap]
    repeat' (first | (refine stg_ ?_) | (refine And.intro ?_ ?_ <;> (conv => whnf)))
    all_goals (refine Weak.cov ?_ ?_ ?_; (focus exact cv_); (focus exact cv_); (focus rfl))
   (conv => whnf)
   (repeat (refine stg_ ?_))
   (refine And.intro rfl ?_; (conv => whnf))
   refine .inl ⟨rfl, _, hstp, ?_⟩
   (refine Weak.cov ?_ ?_ ?_; (focus exact cv_); (focus exact cv_); (focus rfl))
 ·obtain rfl := hr0 rfl
  refine LoopW.go (α := Nat × List TPeak) (fun p => [(0, .pB 3 [] 0), (11, .pB 8 [] 0), (50, .d (.lst (([] : List ByteArray).map D.str))), (51, .d (.int .i64 ([] : List ByteArray).length)), (52, .d (.int .i64 p.1))]) (fun p => [.gone, .box (.st [.nils, .nils]), .arr 1 (ls.map D.str) true, .box (.st [.own 4 0 v.fAxes.length, .own 5 0 v.fMasters.length]), .arr 5 (v.fAxes.map TAxis.D) true, .arr 2 (v.fMasters.map mR) true, .keep [(0, .d (.str s)), (2, .pB 1 [] 0), (6, .pB 3 [] 0), (17, .own 2 0 ls.length), (18, .d (.int .i64 ls.length)), (19, .d (.int .i64 ((k : Nat) : Int)))] s0, .gone, .box (.st [.own 9 0 p.2.length, .d nilC]), .arr 3 (p.2.map TPeak.D) true]) (fun p => p.1 ≤ ([] : List ByteArray).length ∧ mapO pkR (([] : List ByteArray).take p.1) = some p.2) (fun p => ([] : List ByteArray).length - p.1) (0, [])
   (Weak.trans (Weak.adoptM 8 [] [.nils] rfl rfl 3 true) (Weak.trans (Weak.nilR 8 rfl rfl) (Weak.trans (Weak.nilD 50 rfl) (Weak.cov ?_ ?_ ?_)))) ⟨by simp, rfl⟩ ?_
  ·exact cv_
  ·exact cv_
  ·rfl
  generalize ([] : List ByteArray) = r at *
  rintro ⟨j, ps⟩ ⟨k1, k2⟩
  dsimp only at k1 k2 ⊢
  have hpl := mapO_len k2
  rw [List.length_take] at hpl
  have hdp : (ps.map TPeak.D).length = ps.length := List.length_map _
  (conv => whnf)
  (repeat (refine stg_ ?_))
  (refine br_ (fun h3 => ?_) (fun h3 => ?_))
  ·obtain ⟨x, hx⟩ := at_lt' (xs := r) (k := j) (by omega)
   have hex : (r.map D.str)[j]? = some (.str x) := by rw [List.getElem?_map, hx]; rfl
   have hxz := hrz x (List.mem_of_getElem? hx)
   have c2 := Split_v x ⟨#[58]⟩ 58 rfl hxz rfl (by rw [← bTl, ← bTl]; rfl)
   have hxl : x.data.toList.length = x.size := Array.length_toList
   have hxc := List.count_le_length (a := (58 : UInt8)) (l := x.data.toList)
   have hxn := spB_len 58 x
   have hpk : pkR x = match rnL (spB 58 x) with
    | some [a, b, c] => some ⟨a, b, c⟩
    | _ => none := rfl
   obtain ⟨us, hus⟩ : ∃ us, us = spB 58 x := ⟨_, rfl⟩
   rw [← hus] at c2 hxn hpk
   have hbad : pkR x = none → stp v w = none := fun h => by rw [hstp, mapO_bad hx h]
   have hLu : (us.map D.str).length = us.length := List.length_map _
   rcases hq : rnL us with _ | q
   ·have c3 := readNumbers_v us (by omega) _ _ (fun ns h => by rw [hq] at h; cases h) (fun _ => ⟨rfl, rfl⟩)
    have hno := hbad (by rw [hpk, hq])
    (repeat' (first | (refine stg_ ?_) | (refine cla_ (c2) ?_) | (refine cla_ (c3) ?_) | (refine br_ (fun hbr => ?_) (fun hbr => ?_))))
    all_goals try (exfalso; simp_all; done)
    all_goals ((refine And.intro rfl ?_; (conv => whnf)); refine .inr ⟨rfl, hno, ?_⟩; (refine Weak.cov ?_ ?_ ?_; (focus exact cv_); (focus exact cv_); (focus rfl)))
   have c3 := readNumbers_v us (by omega) (.tup [.own 1 0 q.length, .d (.bool true)]) [.arr 1 (q.map (D.int .i64)) true] (fun ns h => by rw [hq] at h; cases h; exact ⟨rfl, rfl⟩) (fun h => by rw [hq] at h; cases h)
   by_cases hq3 : q.length = 3
   rotate_left
   ·have hno := hbad (pkR_bad hus hq hq3)
    (repeat' (first | (refine stg_ ?_) | (refine cla_ (c2) ?_) | (refine cla_ (c3) ?_) | (refine br_ (fun hbr => ?_) (fun hbr => ?_))))
    all_goals try (exfalso; omega)
    all_goals ((refine And.intro rfl ?_; (conv => whnf)); refine .inr ⟨rfl, hno, ?_⟩; (refine Weak.cov ?_ ?_ ?_; (focus exact cv_); (focus exact cv_); (focus rfl)))
   obtain ⟨a, b, c, rfl⟩ : ∃ a b c, q = [a, b, c] := by
    match q, hq3 with
    | [a, b, c], _ => exact ⟨a, b, c, rfl⟩
   have f0 : ([a, b, c].map (D.int .i64))[0]? = some (.int .i64 a) := rfl
   have f1 : ([a, b, c].map (D.int .i64))[1]? = some (.int .i64 b) := rfl
   have f2 : ([a, b, c].map (D.int .i64))[2]? = some (.int .i64 c) := rfl
   rw [hq] at hpk
   repeat' (first | ((fail_if_success (with_reducible apply RegD.id)); (refine stg_ ?_)) | (refine cla_ (c2) ?_) | (refine cla_ (c3) ?_) | (refine br_ (fun hbr => ?_) (fun hbr => ?_); (focus (exfalso; omega))))
   have hps : (ps ++ [(⟨a, b, c⟩ : TPeak)]).length = ps.length + 1 := by simp
   have hap : (ps.map TPeak.D).take ps.length ++ [TPeak.D ⟨a, b, c⟩] = (ps ++ [(⟨a, b, c⟩ : TPeak)]).map TPeak.D := by
    rw [List.take_of_length_le (by omega), List.map_append]; rfl
   refine RegD.cutT [(0, .pB 3 [] 0), (11, .pB 8 [] 0), (50, .d (.lst (r.map D.str))), (51, .d (.int .i64 r.length)), (52, .d (.int .i64 ((j : Nat) : Int)))] [.gone, .box (.st [.nils, .nils]), .arr 1 (ls.map D.str) true, .box (.st [.own 4 0 v.fAxes.length, .own 5 0 v.fMasters.length]), .arr 5 (v.fAxes.map TAxis.D) true, .arr 2 (v.fMasters.map mR) true, .keep [(0, .d (.str s)), (2, .pB 1 [] 0), (6, .pB 3 [] 0), (17, .own 2 0 ls.length), (18, .d (.int .i64 ls.length)), (19, .d (.int .i64 ((k : Nat) : Int)))] s0, .gone, .box (.st [.own 9 0 (ps ++ [(⟨a, b, c⟩ : TPeak)]).length, .d nilC]), .arr 3 ((ps ++ [(⟨a, b, c⟩ : TPeak)]).map TPeak.D) true] trL18 (by kernel_rfl) ?_ ?_
   ·(conv => whnf)
    rw [hps, ← hap]
    repeat' (first | (refine stg_ ?_) | (refine And.intro ?_ ?_ <;> (conv => whnf)))
    all_goals (refine Weak.cov ?_ ?_ ?_; (focus exact cv_); (focus exact cv_); (focus rfl))
   (conv => whnf)
   (repeat (refine stg_ ?_))
   exact NextW.go (j + 1, ps ++ [⟨a, b, c⟩]) covT_ ⟨by dsimp only; omega, by dsimp only; rw [take_snoc_get hx]; exact mapO_snoc k2 hpk⟩ (by dsimp only; omega)
  ·have hj : j = r.length := by omega
   rw [hj, List.take_length] at k2
   rw [k2] at hstp
   (repeat ((fail_if_success (with_reducible apply RegD.id)); (refine stg_ ?_)))
   have hms : (v.fMasters ++ [(⟨ps, []⟩ : TMaster)]).length = v.fMasters.length + 1 := by simp
   have hap : (v.fMasters.map mR).take v.fMasters.length ++ [mR ⟨ps, []⟩] = (v.fMasters ++ [(⟨ps, []⟩ : TMaster)]).map mR := by
    rw [List.take_of_length_le (by omega), List.map_append]; rfl
   refine RegD.cutT [] [.gone, .box (.st [.nils, .nils]), .arr 1 (ls.map D.str) true, .box (.st [.own 4 0 v.fAxes.length, .own 5 0 (v.fMasters ++ [(⟨ps, []⟩ : TMaster)]).length]), .arr 5 (v.fAxes.map TAxis.D) true, .arr 2 ((v.fMasters ++ [(⟨ps, []⟩ : TMaster)]).map mR) true, .keep [(0, .d (.str s)), (2, .pB 1 [] 0), (6, .pB 3 [] 0), (17, .own 2 0 ls.length), (18, .d (.int .i64 ls.length)), (19, .d (.int .i64 ((k : Nat) : Int)))] s0] trL20 (by kernel_rfl) ?_ ?_
   ·(conv => whnf)
    rw [hms, ← hap]
    repeat' (first | (refine stg_ ?_) | (refine And.intro ?_ ?_ <;> (conv => whnf)))
    all_goals (refine Weak.cov ?_ ?_ ?_; (focus exact cv_); (focus exact cv_); (focus rfl))
   (conv => whnf)
   (repeat (refine stg_ ?_))
   (refine And.intro rfl ?_; (conv => whnf))
   refine .inl ⟨rfl, _, hstp, ?_⟩
   (refine Weak.cov ?_ ?_ ?_; (focus exact cv_); (focus exact cv_); (focus rfl))
theorem adD_at {ms : List TMaster} {m : TMaster} (h : ms[ms.length - 1]? = some m) (d : TGlyphDelta) : adD ms d = ms.set (ms.length - 1) ⟨m.fPeaks, m.fDeltas ++ [d]⟩ := by
 rw [adD, h]
theorem adD_len (ms : List TMaster) (d : TGlyphDelta) : (adD ms d).length = ms.length := by
 rw [adD]
 split <;> simp
def trL26 : OT := .q 0 (.q 1 (.q 2 (.q 3 (.q 4 (.q 5 (.q 6 (.q 7 (.q 8 (.q 9 (.q 10 (.q 11 .done)))))))))))
set_option maxRecDepth 100000 in
set_option maxHeartbeats 8000000 in
theorem rvl_dl (s : ByteArray) (ls : List ByteArray) (k : Nat) (v : TVariation) (w kd rest : ByteArray) (more : Bool) (r : List ByteArray) {e : Env} (he : cov e [(0, .d (.str s)), (2, .pB 1 [] 0), (6, .pB 3 [] 0), (17, .own 2 0 ls.length), (18, .d (.int .i64 ls.length)), (19, .d (.int .i64 ((k : Nat) : Int)))]) (hw1 : w.size ≤ 1048576) (hr1 : rest.size ≤ 1048576) (hn1 : v.fMasters.length ≤ 1048577) (hn2 : ∀ m ∈ v.fMasters, m.fDeltas.length ≤ 1048577)
  (hc : PC Tryz.prog 56 [.d (.str w), .d (.str ⟨#[32]⟩)] (.tup [.d (.str kd), .d (.str rest), .d (.bool more)]) []) (hA : ¬ kd.toList = (⟨#[97, 120, 105, 115]⟩ : ByteArray).toList) (hB : ¬ kd.toList = (⟨#[109, 97, 115, 116, 101, 114]⟩ : ByteArray).toList) (hk : kd.toList = (⟨#[100, 101, 108, 116, 97]⟩ : ByteArray).toList)
  (hr0 : more = false → r = []) (hr2 : more = true → r = spB 32 rest)
  (hstp : stp v w = match dlR r with | some d => if v.fMasters.length = 0 then none else some ⟨v.fAxes, adD v.fMasters d⟩ | none => none) :
  CallM Tryz.prog 20 [.pB 3 [] 0, .d (.str w)] e [.gone, .box (.st [.nils, .nils]), .arr 1 (ls.map D.str) true, .box (.st [.own 4 0 (v).fAxes.length, .own 5 0 (v).fMasters.length]), .arr 5 ((v).fAxes.map TAxis.D) true, .arr 2 ((v).fMasters.map mR) true] (RvK s ls k v w) := by
 (refine CallM.inl ttOk (by kernel_rfl) Tryz.func20 rfl (by kernel_rfl) (by kernel_rfl) (by rfl) [(0, .d (.str s)), (2, .pB 1 [] 0), (6, .pB 3 [] 0), (17, .own 2 0 ls.length), (18, .d (.int .i64 ls.length)), (19, .d (.int .i64 ((k : Nat) : Int)))] (cov_get _ he) (fun s0 => ?_); (conv => whnf))
 have c1 := Split_v rest ⟨#[32]⟩ 32 rfl hr1 rfl (by rw [← bTl, ← bTl]; rfl)
 have hd : (v.fMasters.map mR).length = v.fMasters.length := List.length_map _
 have hl : rest.data.toList.length = rest.size := Array.length_toList
 have hcl := List.count_le_length (a := (32 : UInt8)) (l := rest.data.toList)
 have hsn := spB_len 32 rest
 have hrn : r.length ≤ 1048577 := by
  cases more
  ·rw [hr0 rfl]; simp
  ·rw [hr2 rfl]; omega
 have hrz : ∀ x ∈ r, x.size ≤ 1048576 := fun x hx => by
  cases more
  ·rw [hr0 rfl] at hx; simp at hx
  ·rw [hr2 rfl] at hx; exact Nat.le_trans (spB_le 32 rest x hx) hr1
 cases more
 ·obtain rfl := hr0 rfl
  have c2 := readDelta_v [] (by simp) (by simp) _ _ (fun d h => by cases h) (fun _ => ⟨rfl, rfl⟩)
  repeat' (first | ((fail_if_success (with_reducible apply RegD.id)); (refine stg_ ?_)) | (refine cla_ (hc) ?_) | (refine cla_ (c1) ?_) | (refine cla_ (c2) ?_) | (refine br_ (fun hbr => ?_) (fun hbr => ?_); rotate_left; (focus (exfalso; exact hbr hk))) | (refine br_ (fun hbr => ?_) (fun hbr => ?_); (focus (exfalso; first | exact hA hbr | exact hB hbr))))
  (refine And.intro rfl ?_; (conv => whnf))
  refine .inr ⟨rfl, hstp, ?_⟩
  (refine Weak.cov ?_ ?_ ?_; (focus exact cv_); (focus exact cv_); (focus rfl))
 obtain rfl := hr2 rfl
 rcases hq : dlR (spB 32 rest) with _ | d
 ·rw [hq] at hstp
  have c2 := readDelta_v (spB 32 rest) hrz hrn _ _ (fun d h => by rw [hq] at h; cases h) (fun _ => ⟨rfl, rfl⟩)
  repeat' (first | ((fail_if_success (with_reducible apply RegD.id)); (refine stg_ ?_)) | (refine cla_ (hc) ?_) | (refine cla_ (c1) ?_) | (refine cla_ (c2) ?_) | (refine br_ (fun hbr => ?_) (fun hbr => ?_); rotate_left; (focus (exfalso; exact hbr hk))) | (refine br_ (fun hbr => ?_) (fun hbr => ?_); (focus (exfalso; first | exact hA hbr | exact hB hbr))))
  (refine And.intro rfl ?_; (conv => whnf))
  refine .inr ⟨rfl, hstp, ?_⟩
  (refine Weak.cov ?_ ?_ ?_; (focus exact cv_); (focus exact cv_); (focus rfl))
 rw [hq] at hstp
 have c2 := readDelta_v (spB 32 rest) hrz hrn (.tup [.st [.d (.int .i64 d.fGlyph), .own 1 0 d.fKnots.length, .own 2 0 d.fMoves.length, .d (.int .i64 d.fAdvance)], .d (.bool true)]) [.arr 1 (d.fKnots.map (D.int .i64)) true, .arr 2 (d.fMoves.map TPt.D) true] (fun d' h => by rw [hq] at h; cases h; exact ⟨rfl, rfl⟩) (fun h => by rw [hq] at h; cases h)
 by_cases hm0 : v.fMasters.length = 0
 ·dsimp only at hstp
  rw [if_pos hm0] at hstp
  repeat' (first | ((fail_if_success (with_reducible apply RegD.id)); (refine stg_ ?_)) | (refine cla_ (hc) ?_) | (refine cla_ (c1) ?_) | (refine cla_ (c2) ?_) | (refine br_ (fun hbr => ?_) (fun hbr => ?_); rotate_left; (focus (exfalso; first | exact hbr hk | omega))) | (refine br_ (fun hbr => ?_) (fun hbr => ?_); (focus (exfalso; first | exact hA hbr | exact hB hbr))))
  (refine And.intro rfl ?_; (conv => whnf))
  refine .inr ⟨rfl, hstp, ?_⟩
  (refine Weak.cov ?_ ?_ ?_; (focus exact cv_); (focus exact cv_); (focus rfl))
 dsimp only at hstp
 rw [if_neg hm0] at hstp
 obtain ⟨m, hm⟩ := at_lt' (xs := v.fMasters) (k := v.fMasters.length - 1) (by omega)
 have hms := hn2 m (List.mem_of_getElem? hm)
 have hex : (v.fMasters.map mR)[v.fMasters.length - 1]? = some (mR m) := by rw [List.getElem?_map, hm]; rfl
 have hdm : (m.fDeltas.map TGlyphDelta.D).length = m.fDeltas.length := List.length_map _
 repeat' (first | ((fail_if_success (with_reducible apply RegD.id)); (refine stg_ ?_)) | (refine cla_ (hc) ?_) | (refine cla_ (c1) ?_) | (refine br_ (fun hbr => ?_) (fun hbr => ?_); rotate_left; (focus (exfalso; first | exact hbr hk | omega))) | (refine br_ (fun hbr => ?_) (fun hbr => ?_); (focus (exfalso; first | exact hA hbr | exact hB hbr))))
 refine clX_ c2 (WeakX.pre (e0 := [(VS, .tup [.st [.d (.int .i64 d.fGlyph), .own 8 0 d.fKnots.length, .own 9 0 d.fMoves.length, .d (.int .i64 d.fAdvance)], .d (.bool true)]), (0, .pB 3 [] 0)]) (h0 := [.gone, .box (.st [.nils, .nils]), .arr 1 (ls.map D.str) true, .box (.st [.own 4 0 v.fAxes.length, .own 5 0 v.fMasters.length]), .arr 5 (v.fAxes.map TAxis.D) true, .arr 2 (v.fMasters.map mR) true, .keep [(0, .d (.str s)), (2, .pB 1 [] 0), (6, .pB 3 [] 0), (17, .own 2 0 ls.length), (18, .d (.int .i64 ls.length)), (19, .d (.int .i64 ((k : Nat) : Int)))] s0, .gone, .arr 1 (d.fKnots.map (D.int .i64)) true, .arr 2 (d.fMoves.map TPt.D) true]) (Weak.cov ?_ ?_ ?_) (WeakX.outM (b := 5) rfl rfl hm (fun g cap sz t hcap => WeakX.of (Weak.refl _ _) ⟨_, _, rfl, rfl, ?_⟩)))
 ·exact cv_
 ·exact cv_
 ·rfl
 (conv => whnf)
 refine br_ (fun hbr => ?_) (fun hbr => ?_)
 ·exfalso; omega
 repeat ((fail_if_success (with_reducible apply RegD.id)); (refine stg_ ?_))
 have hexs : ((v.fMasters.map mR).set (v.fMasters.length - 1) (.st [.lst (m.fPeaks.map TPeak.D), .hole g m.fDeltas.length cap]))[v.fMasters.length - 1]? = some (.st [.lst (m.fPeaks.map TPeak.D), .hole g m.fDeltas.length cap]) := List.getElem?_set_self (by rw [hd]; omega)
 have hds : ((v.fMasters.map mR).set (v.fMasters.length - 1) (.st [.lst (m.fPeaks.map TPeak.D), .hole g m.fDeltas.length cap])).length = v.fMasters.length := by rw [List.length_set]; exact hd
 (refine RegD.treeT trL26 (by kernel_rfl) ?_; (conv => whnf))
 refine ArW.i64e ((v.fMasters.length - 1 : Nat) : Int) (by omega) (by omega) ?_
 (conv => whnf)
 (repeat (refine stg_ ?_))
 refine HoW.mk ⟨11, 10, 4, _, true, sz, t, rfl, rfl, hcap, ?_⟩
 (conv => whnf)
 repeat (first | ((with_reducible apply HlW.id); (refine HlW.at (fun g2 cap2 sz2 ty2 hcap2 => ?_)); (conv => whnf)) | ((fail_if_success (with_reducible apply RegD.id)); (refine stg_ ?_)))
 (refine And.intro rfl ?_; (conv => whnf))
 refine .inl ⟨rfl, _, hstp, ?_⟩
 have hXi : (((v.fMasters.map mR).set (v.fMasters.length - 1) (.st [.lst (m.fPeaks.map TPeak.D), .hole g m.fDeltas.length cap])).set (v.fMasters.length - 1) (.st [.lst (m.fPeaks.map TPeak.D), .hole g2 (m.fDeltas.length + 1) cap2]))[v.fMasters.length - 1]? = some (.st [.lst (m.fPeaks.map TPeak.D), .hole g2 (m.fDeltas.length + 1) cap2]) := List.getElem?_set_self (by rw [List.length_set, hd]; omega)
 have hne : m.fDeltas ++ [d] ≠ [] := by simp
 have hfin : (((v.fMasters.map mR).set (v.fMasters.length - 1) (.st [.lst (m.fPeaks.map TPeak.D), .hole g m.fDeltas.length cap])).set (v.fMasters.length - 1) (.st [.lst (m.fPeaks.map TPeak.D), .hole g2 (m.fDeltas.length + 1) cap2])).set (v.fMasters.length - 1) (.st [.lst (m.fPeaks.map TPeak.D), .lst ((m.fDeltas.map TGlyphDelta.D).take m.fDeltas.length ++ [d.D])]) = (adD v.fMasters d).map mR := by
  rw [adD_at hm, List.set_set, List.set_set, List.map_set]
  congr 1
  show _ = D.st [.lst (m.fPeaks.map TPeak.D), dlD (m.fDeltas ++ [d])]
  rw [dlD_some hne, List.map_append, List.take_of_length_le (by omega)]; rfl
 have hfb : Blk.arr 2 ((((v.fMasters.map mR).set (v.fMasters.length - 1) (.st [.lst (m.fPeaks.map TPeak.D), .hole g m.fDeltas.length cap])).set (v.fMasters.length - 1) (.st [.lst (m.fPeaks.map TPeak.D), .hole g2 (m.fDeltas.length + 1) cap2])).set (v.fMasters.length - 1) (.st [.lst (m.fPeaks.map TPeak.D), .lst ((m.fDeltas.map TGlyphDelta.D).take m.fDeltas.length ++ [d.D])])) true = Blk.arr 2 ((adD v.fMasters d).map mR) true := by rw [hfin]
 have hL := adD_len v.fMasters d
 refine Weak.trans (Weak.cov (e' := [(0, .d (.str s)), (2, .pB 1 [] 0), (6, .pB 3 [] 0), (17, .own 2 0 ls.length), (18, .d (.int .i64 ls.length)), (19, .d (.int .i64 ((k : Nat) : Int)))]) (h' := [.gone, .box (.st [.nils, .nils]), .arr 1 (ls.map D.str) true, .box (.st [.own 4 0 v.fAxes.length, .own 5 0 v.fMasters.length]), .arr 5 (v.fAxes.map TAxis.D) true, .arr 2 (((v.fMasters.map mR).set (v.fMasters.length - 1) (.st [.lst (m.fPeaks.map TPeak.D), .hole g m.fDeltas.length cap])).set (v.fMasters.length - 1) (.st [.lst (m.fPeaks.map TPeak.D), .hole g2 (m.fDeltas.length + 1) cap2])) true, .gone, .gone, .gone, .gone, .arr 4 ((m.fDeltas.map TGlyphDelta.D).take m.fDeltas.length ++ [d.D]) true, .gone, .gone, .gone, .pin 10 g2 sz2 ty2]) ?_ ?_ ?_)
  (Weak.trans (Weak.inn (b := 5) (c := 10) (j := 14) (k := v.fMasters.length - 1) (p := [1]) (o := 1) (U := fun u => .st [.lst (m.fPeaks.map TPeak.D), u]) rfl rfl (by decide) rfl hXi rfl (fun _ => rfl) rfl rfl (by rw [List.length_append, List.length_take, hdm, Nat.min_self]; rfl) hcap2) (Weak.cov ?_ ?_ ?_))
 ·exact cv_
 ·exact cv_
 ·rfl
 ·exact cv_
 ·dsimp only
  rw [hL]
  (repeat' (first | exact trivial | with_reducible rfl | with_reducible exact hfb | (refine ⟨?_, ?_⟩) | exact hfb | rfl))
 ·rfl
structure RvR (s : ByteArray) (v : V) (bs : List Blk) : Prop where
 own : ∀ x, rvR s = some x → v = .tup [.st [.own 1 0 x.fAxes.length, .own 2 0 x.fMasters.length], .d (.bool true)] ∧ bs = [.arr 5 (x.fAxes.map TAxis.D) true, .arr 2 (x.fMasters.map TMaster.D) true]
 no : rvR s = none → v = .tup [.st [.nils, .nils], .d (.bool false)] ∧ bs = []
theorem textLines_e : PC Tryz.prog 19 [.d (.str .empty)] (.tup [.nils, .d (.bool true)]) [] := by
 refine pc_intro ttOk (by kernel_rfl) Tryz.func19 rfl (by kernel_rfl) (by kernel_rfl) (by kernel_rfl) (fun hw => ?_)
 (conv => whnf)
 (repeat' (first | (refine stg_ ?_) | fail | (refine br_ (fun hbr => ?_) (fun hbr => ?_))))
 all_goals first | (exfalso; exact hbr rfl) | (refine RetOK.t rfl ?_; (repeat' (first | ((conv => whnf); done) | ((conv => whnf); (first | (exact ⟨by decide, rfl⟩) | (exact ⟨rfl, rfl⟩) | (refine ⟨_, _, rfl, ?_, ?_⟩) | (refine ⟨_, rfl, ?_⟩) | rfl)))); done)
theorem textLines_no (s : ByteArray) (hs : s.size ≤ 1048576) {t : List UInt8} {c : UInt8} (e : s.data.toList = t ++ [c]) (hc : c ≠ 10) : PC Tryz.prog 19 [.d (.str s)] (.tup [.nils, .d (.bool false)]) [] := by
 refine pc_intro ttOk (by kernel_rfl) Tryz.func19 rfl (by kernel_rfl) (by kernel_rfl) (by kernel_rfl) (fun hw => ?_)
 have hl : s.data.toList.length = s.size := Array.length_toList
 have hlen := congrArg List.length e
 rw [List.length_append, List.length_singleton, hl] at hlen
 have hch : s[(((s.size : Nat) : Int) - 1).toNat]? = some c := by
  rw [show (((s.size : Nat) : Int) - 1).toNat = s.size - 1 by omega, bL', e, List.getElem?_append_right (by omega), show s.size - 1 - t.length = 0 by omega]; rfl
 have hcn : ¬ ((c.toNat : Nat) : Int) = 10 := fun q => hc (UInt8.toNat_inj.1 (by rw [show (10 : UInt8).toNat = 10 from rfl]; omega))
 have hne : ¬ s.toList = ByteArray.empty.toList := fun h => by
  have := congrArg ByteArray.size (toL_inj h)
  rw [show ByteArray.empty.size = 0 from rfl] at this
  omega
 (conv => whnf)
 (repeat' (first | (refine stg_ ?_) | fail | (refine br_ (fun hbr => ?_) (fun hbr => ?_))))
 all_goals first | (exfalso; exact hne (by assumption)) | (exfalso; exact hcn (by assumption)) | (refine RetOK.t rfl ?_; (repeat' (first | ((conv => whnf); done) | ((conv => whnf); (first | (exact ⟨by decide, rfl⟩) | (exact ⟨rfl, rfl⟩) | (refine ⟨_, _, rfl, ?_, ?_⟩) | (refine ⟨_, rfl, ?_⟩) | rfl)))); done)
theorem textLines_v (s : ByteArray) (hs : s.size ≤ 1048576) {t : List UInt8} (e : s.data.toList = t ++ [10]) : PC Tryz.prog 19 [.d (.str s)] (.tup [.own 1 0 (spB 10 (mkS t)).length, .d (.bool true)]) [.arr 1 ((spB 10 (mkS t)).map D.str) true] := by
 refine pc_intro ttOk (by kernel_rfl) Tryz.func19 rfl (by kernel_rfl) (by kernel_rfl) (by kernel_rfl) (fun hw => ?_)
 have hl : s.data.toList.length = s.size := Array.length_toList
 have hlen := congrArg List.length e
 rw [List.length_append, List.length_singleton, hl] at hlen
 have hch : s[(((s.size : Nat) : Int) - 1).toNat]? = some 10 := by
  rw [show (((s.size : Nat) : Int) - 1).toNat = s.size - 1 by omega, bL', e, List.getElem?_append_right (by omega), show s.size - 1 - t.length = 0 by omega]; rfl
 have hne : ¬ s.toList = ByteArray.empty.toList := fun h => by
  have := congrArg ByteArray.size (toL_inj h)
  rw [show ByteArray.empty.size = 0 from rfl] at this
  omega
 have c1 := Split_v (mkS t) ⟨#[10]⟩ 10 rfl (by rw [mkS_size]; omega) rfl (by rw [← bTl, ← bTl]; rfl)
 have hex : s.extract 0 (((s.size : Nat) : Int) - 1).toNat = mkS t := by
  rw [show (((s.size : Nat) : Int) - 1).toNat = t.length by omega]; exact bx_take e
 have c1 : PC Tryz.prog 55 [.d (.str (s.extract 0 (((s.size : Nat) : Int) - 1).toNat)), .d (.str ⟨#[10]⟩)] (.own 1 0 (spB 10 (mkS t)).length) [.arr 1 ((spB 10 (mkS t)).map D.str) true] := by rw [hex]; exact c1
 (conv => whnf)
 (repeat' (first | (refine stg_ ?_) | (refine cla_ (c1) ?_) | (refine br_ (fun hbr => ?_) (fun hbr => ?_))))
 all_goals first | (exfalso; exact hne (by assumption)) | (exfalso; simp_all; done) | skip
 all_goals (refine ⟨⟨[some 1], ⟨by decide, rfl, trivial, trivial⟩, by decide, ⟨_, rfl, rfl, ?_⟩⟩⟩; exact rn_)
theorem rvl_no (s : ByteArray) (ls : List ByteArray) (k : Nat) (v : TVariation) (w kd rest : ByteArray) (more : Bool) {e : Env} (he : cov e [(0, .d (.str s)), (2, .pB 1 [] 0), (6, .pB 3 [] 0), (17, .own 2 0 ls.length), (18, .d (.int .i64 ls.length)), (19, .d (.int .i64 ((k : Nat) : Int)))]) (hr1 : rest.size ≤ 1048576)
  (hc : PC Tryz.prog 56 [.d (.str w), .d (.str ⟨#[32]⟩)] (.tup [.d (.str kd), .d (.str rest), .d (.bool more)]) []) (hA : ¬ kd.toList = (⟨#[97, 120, 105, 115]⟩ : ByteArray).toList) (hB : ¬ kd.toList = (⟨#[109, 97, 115, 116, 101, 114]⟩ : ByteArray).toList) (hk : ¬ kd.toList = (⟨#[100, 101, 108, 116, 97]⟩ : ByteArray).toList)
  (hstp : stp v w = none) : CallM Tryz.prog 20 [.pB 3 [] 0, .d (.str w)] e [.gone, .box (.st [.nils, .nils]), .arr 1 (ls.map D.str) true, .box (.st [.own 4 0 (v).fAxes.length, .own 5 0 (v).fMasters.length]), .arr 5 ((v).fAxes.map TAxis.D) true, .arr 2 ((v).fMasters.map mR) true] (RvK s ls k v w) := by
 (refine CallM.inl ttOk (by kernel_rfl) Tryz.func20 rfl (by kernel_rfl) (by kernel_rfl) (by rfl) [(0, .d (.str s)), (2, .pB 1 [] 0), (6, .pB 3 [] 0), (17, .own 2 0 ls.length), (18, .d (.int .i64 ls.length)), (19, .d (.int .i64 ((k : Nat) : Int)))] (cov_get _ he) (fun s0 => ?_); (conv => whnf))
 have c1 := Split_v rest ⟨#[32]⟩ 32 rfl hr1 rfl (by rw [← bTl, ← bTl]; rfl)
 cases more
 all_goals
  repeat' (first | ((fail_if_success (with_reducible apply RegD.id)); (refine stg_ ?_)) | (refine cla_ (hc) ?_) | (refine cla_ (c1) ?_) | (refine br_ (fun hbr => ?_) (fun hbr => ?_); (focus (exfalso; first | exact hA hbr | exact hB hbr | exact hk hbr))))
  (refine And.intro rfl ?_; (conv => whnf))
  refine .inr ⟨rfl, hstp, ?_⟩
  (refine Weak.cov ?_ ?_ ?_; (focus exact cv_); (focus exact cv_); (focus rfl))
theorem toL_lit {b : ByteArray} {l : List UInt8} (h : b.data.toList = l) (a : Array UInt8) (ha : a.toList = l) : b.toList = (⟨a⟩ : ByteArray).toList := by
 rw [← bTl, ← bTl, h]; exact ha.symm
theorem toL_no {b : ByteArray} {l : List UInt8} (h : ¬ b.data.toList = l) (a : Array UInt8) (ha : a.toList = l) : ¬ b.toList = (⟨a⟩ : ByteArray).toList := fun q => h (by
 rw [← bTl, ← bTl] at q
 rw [q]; exact ha)
theorem rvl_v (s : ByteArray) (ls : List ByteArray) (k : Nat) (v : TVariation) (w : ByteArray) {e : Env} (he : cov e [(0, .d (.str s)), (2, .pB 1 [] 0), (6, .pB 3 [] 0), (17, .own 2 0 ls.length), (18, .d (.int .i64 ls.length)), (19, .d (.int .i64 ((k : Nat) : Int)))]) (hw1 : w.size ≤ 1048576) (hn0 : v.fAxes.length ≤ 1048577) (hn1 : v.fMasters.length ≤ 1048577) (hn2 : ∀ m ∈ v.fMasters, m.fDeltas.length ≤ 1048577) :
  CallM Tryz.prog 20 [.pB 3 [] 0, .d (.str w)] e [.gone, .box (.st [.nils, .nils]), .arr 1 (ls.map D.str) true, .box (.st [.own 4 0 (v).fAxes.length, .own 5 0 (v).fMasters.length]), .arr 5 ((v).fAxes.map TAxis.D) true, .arr 2 ((v).fMasters.map mR) true] (RvK s ls k v w) := by
 obtain ⟨kd, rest, more, r, hc, hr1, hsp, hr0, hr2⟩ : ∃ (kd rest : ByteArray) (more : Bool) (r : List ByteArray), PC Tryz.prog 56 [.d (.str w), .d (.str ⟨#[32]⟩)] (.tup [.d (.str kd), .d (.str rest), .d (.bool more)]) [] ∧ rest.size ≤ 1048576 ∧ spB 32 w = kd :: r ∧ (more = false → r = [] ∧ rest = .empty) ∧ (more = true → r = spB 32 rest) := by
  rcases cut_cases 32 w with h | ⟨a, b, e, ha⟩
  ·exact ⟨w, .empty, false, [], Cut_no w ⟨#[32]⟩ 32 rfl hw1 h, by decide, spB_none h, fun _ => ⟨rfl, rfl⟩, fun h => by cases h⟩
  ·have hlz := congrArg List.length e
   have hlw : w.data.toList.length = w.size := Array.length_toList
   rw [List.length_append, List.length_cons, hlw] at hlz
   exact ⟨mkS a, mkS b, true, spB 32 (mkS b), Cut_at w ⟨#[32]⟩ 32 rfl hw1 e ha, by rw [mkS_size]; omega, spB_at e ha, fun h => (by cases h), fun _ => rfl⟩
 have hstp : stp v w = if kd.data.toList = kAx then (match aP r with
   | some a => if axB a = true then some ⟨v.fAxes ++ [a], v.fMasters⟩ else none
   | none => none)
  else if kd.data.toList = mrT then (match mapO pkR r with
   | some ps => some ⟨v.fAxes, v.fMasters ++ [⟨ps, []⟩]⟩
   | none => none)
  else if kd.data.toList = kDl then (match dlR r with
   | some d => if v.fMasters.length = 0 then none else some ⟨v.fAxes, adD v.fMasters d⟩
   | none => none)
  else none := by rw [stp, hsp]; rfl
 by_cases h1 : kd.data.toList = kAx
 ·rw [if_pos h1] at hstp
  refine rvl_ax s ls k v w kd rest more he hw1 hr1 hn0 hc (toL_lit h1 _ rfl) ?_
  rw [hstp]
  cases more with
  | false =>
   obtain ⟨rfl, rfl⟩ := hr0 rfl
   rfl
  | true =>
   obtain rfl := hr2 rfl
   rw [raA]
   cases aP (spB 32 rest) with
   | none => rfl
   | some a =>
    dsimp only
    cases axB a <;> rfl
 rw [if_neg h1] at hstp
 by_cases h2 : kd.data.toList = mrT
 ·rw [if_pos h2] at hstp
  exact rvl_ma s ls k v w kd rest more r he hw1 hr1 hn1 hc (toL_no h1 _ rfl) (toL_lit h2 _ rfl) (fun h => (hr0 h).1) hr2 hstp
 rw [if_neg h2] at hstp
 by_cases h3 : kd.data.toList = kDl
 ·rw [if_pos h3] at hstp
  exact rvl_dl s ls k v w kd rest more r he hw1 hr1 hn1 hn2 hc (toL_no h1 _ rfl) (toL_no h2 _ rfl) (toL_lit h3 _ rfl) (fun h => (hr0 h).1) hr2 hstp
 rw [if_neg h3] at hstp
 exact rvl_no s ls k v w kd rest more he hr1 hc (toL_no h1 _ rfl) (toL_no h2 _ rfl) (toL_no h3 _ rfl) hstp
structure SzV (v : TVariation) (k : Nat) : Prop where
 a : v.fAxes.length ≤ k
 m : v.fMasters.length ≤ k
 d : ∀ m ∈ v.fMasters, m.fDeltas.length ≤ k
theorem szV_stp {v v' : TVariation} {w : ByteArray} {k : Nat} (h : SzV v k) (hs : stp v w = some v') : SzV v' (k + 1) := by
 have ha := h.a
 have hm := h.m
 have hd := h.d
 unfold stp at hs
 split at hs
 ·cases hs
 ·split at hs
  ·split at hs
   ·split at hs
    ·cases hs
     exact ⟨by simp; omega, by dsimp only; omega, fun m hmm => by have := hd m hmm; omega⟩
    ·cases hs
   ·cases hs
  ·split at hs
   ·split at hs
    ·cases hs
     refine ⟨by dsimp only; omega, by simp; omega, fun m hmm => ?_⟩
     rcases List.mem_append.1 hmm with hmm | hmm
     ·have := hd m hmm; omega
     ·obtain rfl := List.mem_singleton.1 hmm
      simp
    ·cases hs
   ·split at hs
    ·split at hs
     ·split at hs
      ·cases hs
      ·cases hs
       refine ⟨by dsimp only; omega, by dsimp only; rw [adD_len]; omega, fun m hmm => ?_⟩
       dsimp only at hmm
       rw [adD] at hmm
       split at hmm
       ·rename_i z hz
        rcases List.mem_or_eq_of_mem_set hmm with q | q
        ·have := hd m q; omega
        ·subst q
         have := hd z (List.mem_of_getElem? hz)
         simp; omega
       ·have := hd m hmm; omega
     ·cases hs
    ·cases hs
set_option maxRecDepth 100000 in
set_option maxHeartbeats 8000000 in
theorem ReadVariation_v (s : ByteArray) (hs : s.size ≤ 1048576) (v : V) (bs : List Blk) (hR : RvR s v bs) : PC Tryz.prog 6 [.d (.str s)] v bs := by
 refine pc_intro ttOk (by kernel_rfl) Tryz.func6 rfl (by kernel_rfl) (by kernel_rfl) (by kernel_rfl) (fun hw => ?_)
 have hl : s.data.toList.length = s.size := Array.length_toList
 rcases List.eq_nil_or_concat s.data.toList with h0 | ⟨t, c, e⟩
 rotate_left
 rw [List.concat_eq_append] at e
 rotate_left
 ·obtain rfl : s = .empty := by
   apply bs_ext
   rw [h0]; rfl
  have c1 := textLines_e
  have c2 := wellFormed_v v0R
  have c3 := VariationText_v v0R
  have hw0 : wfB v0R = true := rfl
  have hv0 : vtS v0R = .empty := rfl
  rw [hv0] at c3
  obtain ⟨rfl, rfl⟩ := hR.own v0R (by rw [rv_some (v := v0R) rfl, if_pos hw0, if_pos (show txR v0R = ByteArray.empty from rfl)])
  (conv => whnf)
  repeat' (first | ((fail_if_success (with_reducible apply RegD.id)); (refine stg_ ?_)) | (refine cla_ (c1) ?_))
  refine LoopW.go (α := Unit) (fun _ => [(0, .d (.str .empty)), (2, .pB 1 [] 0), (6, .pB 2 [] 0), (18, .d (.int .i64 0)), (19, .d (.int .i64 0))]) (fun _ => [.gone, .box (.st [.nils, .nils]), .box (.st [.own 3 0 0, .own 4 0 0]), .arr 5 (v0R.fAxes.map TAxis.D) true, .arr 2 (v0R.fMasters.map TMaster.D) true]) (fun _ => True) (fun _ => 0) ()
   (Weak.trans (Weak.adoptM 2 [] [.nils] rfl rfl 5 true) (Weak.trans (Weak.adoptM 2 [.own 3 0 0] [] rfl rfl 2 true) (Weak.cov ?_ ?_ ?_))) trivial ?_
  ·exact cv_
  ·exact cv_
  ·rfl
  intro _ _
  (conv => whnf)
  (repeat' (first | (refine stg_ ?_) | (refine cla_ (c2) ?_) | (refine cla_ (c3) ?_) | (refine br_ (fun hbr => ?_) (fun hbr => ?_))))
  all_goals try (exfalso; omega)
  all_goals first | (exfalso; exact hbr trivial) | (refine ⟨⟨[some 3, some 4], ⟨by decide, rfl, trivial, by decide, rfl, trivial, trivial⟩, by decide, ⟨_, rfl, rfl, ?_⟩⟩⟩; (repeat' (first | ((conv => whnf); done) | ((conv => whnf); (first | (exact ⟨by decide, rfl⟩) | (exact ⟨rfl, rfl⟩) | (refine ⟨_, _, rfl, ?_, ?_⟩) | (refine ⟨_, rfl, ?_⟩) | rfl)))))
 by_cases hc : c = 10
 rotate_left
 ·have c1 := textLines_no s hs e hc
  obtain ⟨rfl, rfl⟩ := hR.no (rv_end e hc)
  (conv => whnf)
  (repeat' (first | (refine stg_ ?_) | (refine cla_ (c1) ?_) | (refine br_ (fun hbr => ?_) (fun hbr => ?_))))
  all_goals (refine RetOK.t rfl ?_; exact rn_)
 subst hc
 have c1 := textLines_v s hs e
 have hln := lnR_at e
 rw [← hln] at c1
 have hlc : (lnR s).length ≤ 1048577 := by
  rw [hln, spB_len, mkS_toList]
  have := List.count_le_length (a := (10 : UInt8)) (l := t)
  have h2 := congrArg List.length e
  simp at h2
  omega
 have hlz : ∀ w ∈ lnR s, w.size ≤ 1048576 := fun w hw => by
  rw [hln] at hw
  have h1 := spB_le 10 (mkS t) w hw
  rw [mkS_size] at h1
  have h2 := congrArg List.length e
  simp at h2
  omega
 obtain ⟨ls, hls⟩ : ∃ ls, ls = lnR s := ⟨_, rfl⟩
 rw [← hls] at c1 hlc hlz
 have hLl : (ls.map D.str).length = ls.length := List.length_map _
 (conv => whnf)
 repeat' (first | ((fail_if_success (with_reducible apply RegD.id)); (refine stg_ ?_)) | (refine cla_ (c1) ?_))
 refine LoopW.go (α := Nat × TVariation) (fun p => [(0, .d (.str s)), (2, .pB 1 [] 0), (6, .pB 3 [] 0), (17, .own 2 0 ls.length), (18, .d (.int .i64 ls.length)), (19, .d (.int .i64 ((p.1 : Nat) : Int)))]) (fun p => [.gone, .box (.st [.nils, .nils]), .arr 1 (ls.map D.str) true, .box (.st [.own 4 0 p.2.fAxes.length, .own 5 0 p.2.fMasters.length]), .arr 5 (p.2.fAxes.map TAxis.D) true, .arr 2 (p.2.fMasters.map mR) true]) (fun p => p.1 ≤ ls.length ∧ foldO v0R (ls.take p.1) = some p.2 ∧ SzV p.2 p.1) (fun p => ls.length - p.1) (0, v0R)
  (Weak.trans (Weak.adoptM 3 [] [.nils] rfl rfl 5 true) (Weak.trans (Weak.adoptM 3 [.own 4 0 0] [] rfl rfl 2 true) (Weak.cov ?_ ?_ ?_))) ⟨by simp, rfl, ⟨by simp [v0R], by simp [v0R], by simp [v0R]⟩⟩ ?_
 ·exact cv_
 ·exact cv_
 ·rfl
 rintro ⟨k, v⟩ ⟨k1, k2, k3⟩
 dsimp only at k1 k2 k3 ⊢
 have ha := k3.a
 have hm := k3.m
 (conv => whnf)
 (repeat (refine stg_ ?_))
 (refine br_ (fun h3 => ?_) (fun h3 => ?_))
 ·obtain ⟨w, hw'⟩ := at_lt' (xs := ls) (k := k) (by omega)
  have hew : (ls.map D.str)[k]? = some (.str w) := by rw [List.getElem?_map, hw']; rfl
  have hwz := hlz w (List.mem_of_getElem? hw')
  (repeat (refine stg_ ?_))
  refine CallW.res (rvl_v s ls k v w ?_ hwz (by omega) (by omega) (fun m hmm => by have := k3.d m hmm; omega)) ?_
  ·exact cv_
  rintro u e1 h1 (⟨rfl, v', hst, hW⟩ | ⟨rfl, hst, hW⟩)
  ·refine ⟨rfl, WeakX.of hW ?_⟩
   (conv => whnf)
   (repeat (refine stg_ ?_))
   exact NextW.go (k + 1, v') covT_ ⟨by dsimp only; omega, by dsimp only; rw [take_snoc_get hw', foldO_snoc k2, hst], szV_stp k3 hst⟩ (by dsimp only; omega)
  ·refine ⟨rfl, WeakX.of hW ?_⟩
   obtain ⟨rfl, rfl⟩ := hR.no (rv_no (by rw [← hls]; exact foldO_bad k2 hw' hst))
   (conv => whnf)
   (repeat (refine stg_ ?_))
   (refine RetOK.t rfl ?_; exact rn_)
 ·have hk : k = ls.length := by omega
  rw [hk, List.take_length, hls] at k2
  have hrv := rv_some k2
  have hLa : (v.fAxes.map TAxis.D).length = v.fAxes.length := List.length_map _
  have hLm : (v.fMasters.map TMaster.D).length = v.fMasters.length := List.length_map _
  have c2 := wellFormed_v v
  have c3 := VariationText_v v
  (repeat ((fail_if_success (with_reducible apply RegD.id)); (refine stg_ ?_)))
  (repeat (refine stg_ ?_))
  refine CallW.pre c2.fn (WeakX.of (e0 := [(VS, .tup [.st [.own 4 0 v.fAxes.length, .own 5 0 v.fMasters.length]]), (0, .d (.str s)), (2, .pB 1 [] 0), (6, .pB 3 [] 0)]) (h0 := [.gone, .box (.st [.nils, .nils]), .gone, .box (.st [.own 4 0 v.fAxes.length, .own 5 0 v.fMasters.length]), .arr 5 (v.fAxes.map TAxis.D) true, .arr 2 (v.fMasters.map TMaster.D) true]) (Weak.trans (Weak.cov (e' := [(VS, .tup [.st [.own 4 0 v.fAxes.length, .own 5 0 v.fMasters.length]]), (0, .d (.str s)), (2, .pB 1 [] 0), (6, .pB 3 [] 0)]) (h' := [.gone, .box (.st [.nils, .nils]), .gone, .box (.st [.own 4 0 v.fAxes.length, .own 5 0 v.fMasters.length]), .arr 5 (v.fAxes.map TAxis.D) true, .arr 2 (v.fMasters.map mR) true]) ?_ ?_ ?_) (Weak.rowM 5 rfl rfl)) ⟨_, _, rfl, rfl, ?_⟩)
  ·exact cv_
  ·exact cv_
  ·rfl
  cases hwf : wfB v
  ·rw [hwf] at c2
   rw [hwf, if_neg (by decide)] at hrv
   obtain ⟨rfl, rfl⟩ := hR.no hrv
   (repeat' (first | (refine stg_ ?_) | (refine cla_ (c2) ?_) | (refine br_ (fun hbr => ?_) (fun hbr => ?_))))
   (refine RetOK.t rfl ?_; exact rn_)
  rw [hwf] at c2
  rw [hwf, if_pos rfl] at hrv
  rw [show vtS v = txR v by rw [vtS, if_pos hwf]; rfl] at c3
  by_cases ht : txR v = s
  ·rw [if_pos ht] at hrv
   obtain ⟨rfl, rfl⟩ := hR.own v hrv
   rw [ht] at c3
   (repeat' (first | (refine stg_ ?_) | (refine cla_ (c2) ?_) | (refine cla_ (c3) ?_) | (refine br_ (fun hbr => ?_) (fun hbr => ?_))))
   all_goals first | (exfalso; exact hbr trivial) | (refine ⟨⟨[some 4, some 5], ⟨by decide, rfl, trivial, by decide, rfl, trivial, trivial⟩, by decide, ⟨_, rfl, rfl, ?_⟩⟩⟩; (repeat' (first | ((conv => whnf); done) | ((conv => whnf); (first | (exact ⟨by decide, rfl⟩) | (exact ⟨rfl, rfl⟩) | (refine ⟨_, _, rfl, ?_, ?_⟩) | (refine ⟨_, rfl, ?_⟩) | rfl)))))
  ·rw [if_neg ht] at hrv
   obtain ⟨rfl, rfl⟩ := hR.no hrv
   (repeat' (first | (refine stg_ ?_) | (refine cla_ (c2) ?_) | (refine cla_ (c3) ?_) | (refine br_ (fun hbr => ?_) (fun hbr => ?_))))
   all_goals first | (exfalso; exact ht (toL_inj hbr)) | (refine RetOK.t rfl ?_; (repeat' (first | ((conv => whnf); done) | ((conv => whnf); (first | (exact ⟨by decide, rfl⟩) | (exact ⟨rfl, rfl⟩) | (refine ⟨_, _, rfl, ?_, ?_⟩) | (refine ⟨_, rfl, ?_⟩) | rfl)))); done)
def qsint64 (a b : Int) : Bool := a == b
def qsPt (a b : TPt) : Bool :=  a.fX == b.fX && ( a.fY == b.fY && true)
def qsPeak (a b : TPeak) : Bool :=  a.fStart == b.fStart && ( a.fTop == b.fTop && ( a.fEnd == b.fEnd && true))
def gdEq (x y : TGlyphDelta) : Bool := (x.fGlyph == y.fGlyph) && (eqL qsint64 x.fKnots y.fKnots && (eqL qsPt x.fMoves y.fMoves && (x.fAdvance == y.fAdvance)))
def maEq (x y : TMaster) : Bool := eqL qsPeak x.fPeaks y.fPeaks && eqL gdEq x.fDeltas y.fDeltas
def vaEq (x y : TVariation) : Bool := eqL axEq x.fAxes y.fAxes && eqL maEq x.fMasters y.fMasters
theorem l00Same_v (xs ys : List Int) : PC Tryz.prog 110 [.d (.lst (xs.map (D.int .i64))), .d (.lst (ys.map (D.int .i64)))] (.d (.bool (eqL qsint64 xs ys))) [] := by
 refine pc_intro ttOk (by kernel_rfl) Tryz.func110 rfl (by kernel_rfl) (by kernel_rfl) (by kernel_rfl) (fun hw => ?_)
 have hL : (xs.map (D.int .i64)).length = xs.length := List.length_map _
 have hL' : (ys.map (D.int .i64)).length = ys.length := List.length_map _
 have hm : (xs.map (D.int .i64)).length ≤ 9223372036854775807 := hw.1.1
 (conv => whnf)
 (refine br_ (fun h1 => ?_) (fun h1 => ?_) <;> (repeat (refine stg_ ?_)))
 ·(refine RetOK.d rfl rfl ?_; conv => whnf)
  rw [eqL_len (by omega)]
 ·refine LoopW.go (α := Nat) (fun k => [(0, .d (.lst (xs.map (D.int .i64)))), (1, .d (.lst (ys.map (D.int .i64)))), (5, .d (.int .i64 k))]) (fun k => [.gone]) (fun k => k ≤ xs.length ∧ eqL qsint64 xs ys = eqL qsint64 (xs.drop k) (ys.drop k)) (fun k => xs.length - k) 0 covT_ ?_ (fun k hk => ?_)
  ·exact ⟨by omega, rfl⟩
  obtain ⟨hk1, hk2⟩ := hk
  (conv => whnf)
  (refine br_ (fun h2 => ?_) (fun h2 => ?_) <;> (repeat (refine stg_ ?_)))
  ·obtain ⟨x, hx⟩ := at_lt' (xs := xs) (k := k) (by omega)
   obtain ⟨y, hy⟩ := at_lt' (xs := ys) (k := k) (by omega)
   rw [eqL_at hx hy] at hk2
   (repeat (refine stg_ ?_))
   (refine br_ (fun h3 => ?_) (fun h3 => ?_) <;> (repeat (refine stg_ ?_)))
   ·(refine RetOK.d rfl rfl ?_; conv => whnf)
    rw [hk2, show qsint64 x y = false by rw [qsint64]; simp; first | omega | grind]; rfl
   ·(repeat (refine stg_ ?_))
    exact NextW.go (k + 1) covT_ ⟨by omega, by rw [hk2, show qsint64 x y = true by rw [qsint64]; simp; first | omega | grind]; rfl⟩ (by omega)
  ·(refine RetOK.d rfl rfl ?_; conv => whnf)
   rw [hk2, eqL_end (by omega) (by omega)]
theorem l08SamePoints_v (xs ys : List TPt) : PC Tryz.prog 111 [.d (.lst (xs.map TPt.D)), .d (.lst (ys.map TPt.D))] (.d (.bool (eqL qsPt xs ys))) [] := by
 refine pc_intro ttOk (by kernel_rfl) Tryz.func111 rfl (by kernel_rfl) (by kernel_rfl) (by kernel_rfl) (fun hw => ?_)
 have hL : (xs.map TPt.D).length = xs.length := List.length_map _
 have hL' : (ys.map TPt.D).length = ys.length := List.length_map _
 have hm : (xs.map TPt.D).length ≤ 9223372036854775807 := hw.1.1
 (conv => whnf)
 (refine br_ (fun h1 => ?_) (fun h1 => ?_) <;> (repeat (refine stg_ ?_)))
 ·(refine RetOK.d rfl rfl ?_; conv => whnf)
  rw [eqL_len (by omega)]
 ·refine LoopW.go (α := Nat) (fun k => [(0, .d (.lst (xs.map TPt.D))), (1, .d (.lst (ys.map TPt.D))), (5, .d (.int .i64 k))]) (fun k => [.gone]) (fun k => k ≤ xs.length ∧ eqL qsPt xs ys = eqL qsPt (xs.drop k) (ys.drop k)) (fun k => xs.length - k) 0 covT_ ?_ (fun k hk => ?_)
  ·exact ⟨by omega, rfl⟩
  obtain ⟨hk1, hk2⟩ := hk
  (conv => whnf)
  (refine br_ (fun h2 => ?_) (fun h2 => ?_) <;> (repeat (refine stg_ ?_)))
  ·obtain ⟨x, hx⟩ := at_lt' (xs := xs) (k := k) (by omega)
   obtain ⟨y, hy⟩ := at_lt' (xs := ys) (k := k) (by omega)
   rw [eqL_at hx hy] at hk2
   (repeat (refine stg_ ?_))
   (refine br_ (fun h3 => ?_) (fun h3 => ?_) <;> (repeat (refine stg_ ?_)))
   ·(refine RetOK.d rfl rfl ?_; conv => whnf)
    rw [hk2, show qsPt x y = false by rw [qsPt]; simp; first | omega | grind]; rfl
   ·(repeat (refine stg_ ?_))
    exact NextW.go (k + 1) covT_ ⟨by omega, by rw [hk2, show qsPt x y = true by rw [qsPt]; simp; first | omega | grind]; rfl⟩ (by omega)
  ·(refine RetOK.d rfl rfl ?_; conv => whnf)
   rw [hk2, eqL_end (by omega) (by omega)]
theorem l30SameDelta_v (x y : TGlyphDelta) : PC Tryz.prog 67 [.pX x.D, .pX y.D] (.d (.bool (gdEq x y))) [] := by
 refine pc_intro ttOk (by kernel_rfl) Tryz.func67 rfl (by kernel_rfl) (by kernel_rfl) (by kernel_rfl) (fun hw => ?_)
 (conv => whnf)
 (repeat' (first | (refine stg_ ?_) | (refine cla_ (l00Same_v x.fKnots y.fKnots) ?_) | (refine cla_ (l08SamePoints_v x.fMoves y.fMoves) ?_) | (refine RegD.auto (by kernel_rfl) ?_; conv => whnf) | (refine br_ (fun hbr => ?_) (fun hbr => ?_))))
 all_goals ((refine RetOK.d rfl rfl ?_; conv => whnf); simp_all [gdEq])
theorem l30SameMaster_v (x y : TMaster) : PC Tryz.prog 28 [.pX x.D, .pX y.D] (.d (.bool (maEq x y))) [] := by
 refine pc_intro ttOk (by kernel_rfl) Tryz.func28 rfl (by kernel_rfl) (by kernel_rfl) (by kernel_rfl) (fun hw => ?_)
 have hL : (x.fPeaks.map TPeak.D).length = x.fPeaks.length := List.length_map _
 have hL' : (y.fPeaks.map TPeak.D).length = y.fPeaks.length := List.length_map _
 have hL2 : (x.fDeltas.map TGlyphDelta.D).length = x.fDeltas.length := List.length_map _
 have hL2' : (y.fDeltas.map TGlyphDelta.D).length = y.fDeltas.length := List.length_map _
 have hm1 : (x.fPeaks.map TPeak.D).length ≤ 9223372036854775807 := hw.1.1.1
 have hm2 : (x.fDeltas.map TGlyphDelta.D).length ≤ 9223372036854775807 := hw.1.2.1.1
 (conv => whnf)
 (try (refine RegD.auto (by kernel_rfl) ?_; conv => whnf))
 (repeat' (first | (refine stg_ ?_) | fail | (refine br_ (fun hbr => ?_) (fun hbr => ?_))))
 all_goals first | ((refine RetOK.d rfl rfl ?_; conv => whnf); first | (rw [maEq, eqL_len (xs := x.fPeaks) (by omega)]; done) | (rw [maEq, eqL_len (xs := x.fPeaks) (by omega)]; rfl) | (rw [maEq, eqL_len (xs := x.fDeltas) (by omega), Bool.and_false])) | skip
 refine LoopW.go (α := Nat) (fun k => [(0, .pX x.D), (1, .pX y.D), (5, .d (.int .i64 k))]) (fun k => [.gone]) (fun k => k ≤ x.fPeaks.length ∧ eqL qsPeak x.fPeaks y.fPeaks = eqL qsPeak (x.fPeaks.drop k) (y.fPeaks.drop k)) (fun k => x.fPeaks.length - k) 0 covT_ ?_ (fun k hk => ?_)
 ·exact ⟨by omega, rfl⟩
 obtain ⟨hk1, hk2⟩ := hk
 (conv => whnf)
 (refine br_ (fun h2 => ?_) (fun h2 => ?_) <;> (repeat (refine stg_ ?_)))
 ·obtain ⟨p, hx⟩ := at_lt' (xs := x.fPeaks) (k := k) (by omega)
  obtain ⟨q, hy⟩ := at_lt' (xs := y.fPeaks) (k := k) (by omega)
  rw [eqL_at hx hy] at hk2
  (repeat (refine stg_ ?_))
  cases hq : qsPeak p q
  ·refine BIf.mk (fun h3 => ?_) (fun h3 => ?_)
   ·(conv => whnf)
    (repeat (refine stg_ ?_))
    (refine RetOK.d rfl rfl ?_; conv => whnf)
    rw [maEq, hk2, hq]; rfl
   ·exfalso
    simp only [qsPeak] at hq
    first | (simp_all; done) | (simp_all; omega) | grind
  ·refine BIf.mk (fun h3 => ?_) (fun h3 => ?_)
   ·exfalso
    simp only [qsPeak] at hq
    first | (simp_all; done) | (simp_all; omega) | grind
   ·(conv => whnf)
    (repeat (refine stg_ ?_))
    exact NextW.go (k + 1) covT_ ⟨by omega, by rw [hk2, hq]; rfl⟩ (by omega)
 ·rw [eqL_end (by omega) (by omega)] at hk2
  have hE : maEq x y = eqL gdEq x.fDeltas y.fDeltas := by rw [maEq, hk2]; rfl
  refine LoopW.go (α := Nat) (fun k => [(0, .pX x.D), (1, .pX y.D), (6, .d (.int .i64 k))]) (fun k => [.gone]) (fun k => k ≤ x.fDeltas.length ∧ maEq x y = eqL gdEq (x.fDeltas.drop k) (y.fDeltas.drop k)) (fun k => x.fDeltas.length - k) 0 covT_ ?_ (fun k hk => ?_)
  ·exact ⟨by omega, hE⟩
  obtain ⟨hk3, hk4⟩ := hk
  (conv => whnf)
  (refine br_ (fun h4 => ?_) (fun h4 => ?_) <;> (repeat (refine stg_ ?_)))
  ·obtain ⟨p, hx⟩ := at_lt' (xs := x.fDeltas) (k := k) (by omega)
   obtain ⟨q, hy⟩ := at_lt' (xs := y.fDeltas) (k := k) (by omega)
   rw [eqL_at hx hy] at hk4
   (repeat (refine stg_ ?_))
   (refine cla_ (l30SameDelta_v p q) ?_)
   (repeat (refine stg_ ?_))
   (refine br_ (fun h5 => ?_) (fun h5 => ?_) <;> (repeat (refine stg_ ?_)))
   ·(refine RetOK.d rfl rfl ?_; conv => whnf)
    rw [hk4, h5]; rfl
   ·(repeat (refine stg_ ?_))
    exact NextW.go (k + 1) covT_ ⟨by omega, by rw [hk4, h5]; rfl⟩ (by omega)
  ·(refine RetOK.d rfl rfl ?_; conv => whnf)
   rw [hk4, eqL_end (by omega) (by omega)]
theorem specSameVariation_v (a b : TVariation) : PC Tryz.prog 8 [.d a.D, .d b.D] (.d (.bool (vaEq a b))) [] := by
 refine pc_intro ttOk (by kernel_rfl) Tryz.func8 rfl (by kernel_rfl) (by kernel_rfl) (by kernel_rfl) (fun hw => ?_)
 have hL : (a.fMasters.map TMaster.D).length = a.fMasters.length := List.length_map _
 have hL' : (b.fMasters.map TMaster.D).length = b.fMasters.length := List.length_map _
 have hm : (a.fMasters.map TMaster.D).length ≤ 9223372036854775807 := hw.1.2.1.1
 (conv => whnf)
 (repeat' (first | (refine stg_ ?_) | (refine cla_ (specSameAxes_v a.fAxes b.fAxes) ?_) | (refine br_ (fun hbr => ?_) (fun hbr => ?_))))
 all_goals first | ((refine RetOK.d rfl rfl ?_; conv => whnf); first | (simp_all [vaEq]; done) | (rw [vaEq, eqL_len (xs := a.fMasters) (by omega), Bool.and_false])) | skip
 have hE : vaEq a b = eqL maEq a.fMasters b.fMasters := by simp_all [vaEq]
 refine LoopW.go (α := Nat) (fun k => [(2, .pB 1 [] 0), (3, .pB 2 [] 0), (5, .d (.int .i64 k))]) (fun k => [.gone, .box (.d a.D), .box (.d b.D)]) (fun k => k ≤ a.fMasters.length ∧ vaEq a b = eqL maEq (a.fMasters.drop k) (b.fMasters.drop k)) (fun k => a.fMasters.length - k) 0 covT_ ?_ (fun k hk => ?_)
 ·exact ⟨by omega, hE⟩
 obtain ⟨hk1, hk2⟩ := hk
 (conv => whnf)
 (refine br_ (fun h2 => ?_) (fun h2 => ?_) <;> (repeat (refine stg_ ?_)))
 ·obtain ⟨p, hx⟩ := at_lt' (xs := a.fMasters) (k := k) (by omega)
  obtain ⟨q, hy⟩ := at_lt' (xs := b.fMasters) (k := k) (by omega)
  rw [eqL_at hx hy] at hk2
  (repeat (refine stg_ ?_))
  (refine cla_ (l30SameMaster_v p q) ?_)
  (repeat (refine stg_ ?_))
  (refine br_ (fun h3 => ?_) (fun h3 => ?_) <;> (repeat (refine stg_ ?_)))
  ·(refine RetOK.d rfl rfl ?_; conv => whnf)
   rw [hk2, h3]; rfl
  ·(repeat (refine stg_ ?_))
   exact NextW.go (k + 1) covT_ ⟨by omega, by rw [hk2, h3]; rfl⟩ (by omega)
 ·(refine RetOK.d rfl rfl ?_; conv => whnf)
  rw [hk2, eqL_end (by omega) (by omega)]
theorem l10Same_s (l : TLoop) (hl : l.fKnots.length ≤ 1000000) : PC Tryz.prog 120 [.pX l.D, .pX l.D] (.d (.bool true)) [] := by
 refine pc_intro ttOk (by kernel_rfl) Tryz.func120 rfl (by kernel_rfl) (by kernel_rfl) (by kernel_rfl) (fun hw => ?_)
 have hL : (l.fKnots.map TKnot.D).length = l.fKnots.length := List.length_map _
 (conv => whnf)
 (repeat' (first | (refine stg_ ?_) | fail | (refine br_ (fun hbr => ?_) (fun hbr => ?_))))
 ·exact absurd trivial hbr
 refine LoopW.go (α := Nat) (fun k => [(0, .pX l.D), (1, .pX l.D), (5, .d (.int .i64 k))]) (fun k => [.gone]) (fun k => k ≤ l.fKnots.length) (fun k => l.fKnots.length - k) 0 covT_ ?_ (fun k hk => ?_)
 ·omega
 (conv => whnf)
 (refine br_ (fun h1 => ?_) (fun h1 => ?_))
 ·obtain ⟨x, hx⟩ := at_lt' (xs := l.fKnots) (k := k) (by omega)
  have he : (l.fKnots.map TKnot.D)[k]? = some x.D := by rw [List.getElem?_map, hx]; rfl
  (repeat' (first | (refine stg_ ?_) | fail | (refine br_ (fun hbr => ?_) (fun hbr => ?_))))
  all_goals first | (exfalso; simp_all; done) | exact NextW.go (k + 1) covT_ (by omega) (by omega)
 ·(repeat (refine stg_ ?_))
  (refine RetOK.d rfl rfl ?_; conv => whnf)
theorem specSameOutline_s (o : TOutline) (ho : outB o = true) : PC Tryz.prog 78 [.d o.D, .d o.D] (.d (.bool true)) [] := by
 refine pc_intro ttOk (by kernel_rfl) Tryz.func78 rfl (by kernel_rfl) (by kernel_rfl) (by kernel_rfl) (fun hw => ?_)
 have hL : (o.fLoops.map TLoop.D).length = o.fLoops.length := List.length_map _
 have h0 := out_in ho
 (conv => whnf)
 (repeat' (first | (refine stg_ ?_) | fail | (refine br_ (fun hbr => ?_) (fun hbr => ?_))))
 ·exact absurd trivial hbr
 refine LoopW.go (α := Nat) (fun k => [(2, .pB 1 [] 0), (3, .pB 2 [] 0), (5, .d (.int .i64 k))]) (fun k => [.gone, .box (.d o.D), .box (.d o.D)]) (fun k => k ≤ o.fLoops.length) (fun k => o.fLoops.length - k) 0 covT_ ?_ (fun k hk => ?_)
 ·omega
 (conv => whnf)
 (refine br_ (fun h1 => ?_) (fun h1 => ?_))
 ·obtain ⟨x, hx⟩ := at_lt' (xs := o.fLoops) (k := k) (by omega)
  have he : (o.fLoops.map TLoop.D)[k]? = some x.D := by rw [List.getElem?_map, hx]; rfl
  have c := l10Same_s x (by have := (loop_in (h0.2 x (List.mem_of_getElem? hx))).2.1; omega)
  (repeat' (first | (refine stg_ ?_) | (refine cla_ (c) ?_) | (refine br_ (fun hbr => ?_) (fun hbr => ?_))))
  all_goals first | (exfalso; simp_all; done) | exact NextW.go (k + 1) covT_ (by omega) (by omega) | trace_state
 ·(repeat (refine stg_ ?_))
  (refine RetOK.d rfl rfl ?_; conv => whnf)
set_option maxRecDepth 100000 in
set_option maxHeartbeats 4000000 in
theorem l17Same_s (g : TGlyph) (hg : glB g = true) : PC Tryz.prog 33 [.pX g.D, .pX g.D] (.d (.bool true)) [] := by
 refine pc_intro ttOk (by kernel_rfl) Tryz.func33 rfl (by kernel_rfl) (by kernel_rfl) (by kernel_rfl) (fun hw => ?_)
 have hL1 : (g.fParts.map TPart.D).length = g.fParts.length := List.length_map _
 have hL2 : (g.fAnchors.map TAnchor.D).length = g.fAnchors.length := List.length_map _
 have hF := hg
 simp only [glB, Bool.and_eq_true, decide_eq_true_eq] at hF
 have c := specSameOutline_s g.fOutline hF.2.2.2.1
 have hp6 := hF.2.2.2.2.2.1
 have ha6 := hF.2.2.2.2.2.2.1
 (conv => whnf)
 (repeat' (first | (refine stg_ ?_) | (refine cla_ (c) ?_) | (refine br_ (fun hbr => ?_) (fun hbr => ?_))))
 all_goals first | (exfalso; simp_all; done) | skip
 refine LoopW.go (α := Nat) (fun k => [(0, .pX g.D), (1, .pX g.D), (5, .d (.int .i64 k))]) (fun k => [.gone]) (fun k => k ≤ g.fParts.length) (fun k => g.fParts.length - k) 0 covT_ ?_ (fun k hk => ?_)
 ·omega
 (conv => whnf)
 (refine br_ (fun h1 => ?_) (fun h1 => ?_))
 ·obtain ⟨x, hx⟩ := at_lt' (xs := g.fParts) (k := k) (by omega)
  have he : (g.fParts.map TPart.D)[k]? = some x.D := by rw [List.getElem?_map, hx]; rfl
  (repeat' (first | (refine stg_ ?_) | fail | (refine br_ (fun hbr => ?_) (fun hbr => ?_))))
  all_goals first | (exfalso; simp_all; done) | exact NextW.go (k + 1) covT_ (by omega) (by omega)
 (repeat (refine stg_ ?_))
 refine LoopW.go (α := Nat) (fun k => [(0, .pX g.D), (1, .pX g.D), (6, .d (.int .i64 k))]) (fun k => [.gone]) (fun k => k ≤ g.fAnchors.length) (fun k => g.fAnchors.length - k) 0 covT_ ?_ (fun k hk => ?_)
 ·omega
 (conv => whnf)
 (refine br_ (fun h2 => ?_) (fun h2 => ?_))
 ·obtain ⟨x, hx⟩ := at_lt' (xs := g.fAnchors) (k := k) (by omega)
  have he : (g.fAnchors.map TAnchor.D)[k]? = some x.D := by rw [List.getElem?_map, hx]; rfl
  (repeat' (first | (refine stg_ ?_) | fail | (refine br_ (fun hbr => ?_) (fun hbr => ?_))))
  all_goals first | (exfalso; simp_all; done) | exact NextW.go (k + 1) covT_ (by omega) (by omega)
 ·(repeat (refine stg_ ?_))
  (refine RetOK.d rfl rfl ?_; conv => whnf)
set_option maxHeartbeats 4000000 in
theorem specSameGlyphSet_s (s : TGlyphSet) (hs : gsB s = true) (hl : s.fGlyphs.length ≤ 40) (hg : ∀ g ∈ s.fGlyphs, glB g = true) : PC Tryz.prog 11 [.d s.D, .d s.D] (.d (.bool true)) [] := by
 refine pc_intro ttOk (by kernel_rfl) Tryz.func11 rfl (by kernel_rfl) (by kernel_rfl) (by kernel_rfl) (fun hw => ?_)
 have hL1 : (s.fGlyphs.map TGlyph.D).length = s.fGlyphs.length := List.length_map _
 (conv => whnf)
 (repeat' (first | (refine stg_ ?_) | fail | (refine br_ (fun hbr => ?_) (fun hbr => ?_))))
 all_goals first | (exfalso; simp_all; done) | skip
 refine LoopW.go (α := Nat) (fun k => [(2, .pB 1 [] 0), (3, .pB 2 [] 0), (5, .d (.int .i64 k))]) (fun k => [.gone, .box (.d s.D), .box (.d s.D)]) (fun k => k ≤ s.fGlyphs.length) (fun k => s.fGlyphs.length - k) 0 covT_ ?_ (fun k hk => ?_)
 ·omega
 (conv => whnf)
 (refine br_ (fun h1 => ?_) (fun h1 => ?_))
 ·obtain ⟨x, hx⟩ := at_lt' (xs := s.fGlyphs) (k := k) (by omega)
  have he : (s.fGlyphs.map TGlyph.D)[k]? = some x.D := by rw [List.getElem?_map, hx]; rfl
  have c := l17Same_s x (hg x (List.mem_of_getElem? hx))
  (repeat' (first | (refine stg_ ?_) | (refine cla_ (c) ?_) | (refine br_ (fun hbr => ?_) (fun hbr => ?_))))
  all_goals first | (exfalso; simp_all; done) | exact NextW.go (k + 1) covT_ (by omega) (by omega) | trace_state
 ·(repeat (refine stg_ ?_))
  (refine RetOK.d rfl rfl ?_; conv => whnf)
def srcD (code : List D) (pl sd : Int) : D := .st [.lst code, .int .i64 pl, .int .u64 sd]
def srcR (cc : Value) (pl sd : Int) : D := .st [.raw cc, .int .i64 pl, .int .u64 sd]
def stOK (pl sd : Int) : Prop := 0 ≤ pl ∧ pl ≤ 4611686018427387904 ∧ 0 ≤ sd ∧ sd ≤ 18446744073709551615
theorem stOK_in {pl sd : Int} (h : stOK pl sd) : inR .i64 pl ∧ inR .u64 sd := by
 obtain ⟨h1, h2, h3, h4⟩ := h
 have e1 : IntKind.i64.min = -9223372036854775808 := rfl
 have e2 : IntKind.i64.max = 9223372036854775807 := rfl
 have e3 : IntKind.u64.min = 0 := rfl
 have e4 : IntKind.u64.max = 18446744073709551615 := rfl
 unfold inR
 omega
structure PEs (P : Program) (f : FuncId) (code : List D) (c : Int) (rest : List V) (Q : V → Prop) : Prop where
 fn : ∃ fn, P.funcs[f]? = some fn ∧ (fn.name == "runtime.NumGoroutine") = false ∧ fn.body.isNone = false
 run : ∀ (pl sd : Int) (w : World) (g : Nat) (t : TypeId) (cc : Value) (args : List Value), stOK pl sd → pl + c ≤ 4611686018427387904 → w.heap[g]? = some (.cells #[cc, .int .i64 pl, .int .u64 sd] t (0, 0)) → repD [g] w (.lst code) [cc] → repT w [none] [.gone] rest args →
  Calls P f (.pointer (some ⟨g, 0, none⟩) :: args).toArray w fun en w' => ∃ v cv pl' sd', Q v ∧ pl ≤ pl' ∧ pl' ≤ pl + c ∧ stOK pl' sd' ∧ en = .returned cv ∧ (∀ M h, rep w' M h v cv) ∧ w'.heap[g]? = some (.cells #[cc, .int .i64 pl', .int .u64 sd'] t (0, 0)) ∧ Kept w w' [g] [g]
theorem srcD_rep {O : List Nat} {w : World} {code : List D} {pl sd : Int} {cs : List Value} : repD O w (srcD code pl sd) cs ↔ ∃ cc, cs = [cc, .int .i64 pl, .int .u64 sd] ∧ repD O w (.lst code) [cc] ∧ inR .i64 pl ∧ inR .u64 sd := by
 constructor
 ·intro H
  have H' : repDs O w [.lst code, .int .i64 pl, .int .u64 sd] cs := H
  obtain ⟨c1, c2, rfl, h1, c3, c4, rfl, ⟨rfl, h2⟩, c5, c6, rfl, ⟨rfl, h3⟩, rfl⟩ := H'
  have h1' := h1
  obtain ⟨a, cap, n, rfl, _⟩ := h1'
  exact ⟨_, rfl, h1, h2, h3⟩
 ·rintro ⟨cc, rfl, h1, h2, h3⟩
  exact ⟨[cc], [.int .i64 pl, .int .u64 sd], rfl, h1, [.int .i64 pl], [.int .u64 sd], rfl, ⟨rfl, h2⟩, [.int .u64 sd], [], rfl, ⟨rfl, h3⟩, rfl⟩
theorem srcR_rep {O : List Nat} {w : World} {cc : Value} {pl sd : Int} {cs : List Value} : repD O w (srcR cc pl sd) cs ↔ cs = [cc, .int .i64 pl, .int .u64 sd] ∧ cc.oneCell' = true ∧ inR .i64 pl ∧ inR .u64 sd := by
 constructor
 ·intro H
  have H' : repDs O w [.raw cc, .int .i64 pl, .int .u64 sd] cs := H
  obtain ⟨c1, c2, rfl, ⟨rfl, h1⟩, c3, c4, rfl, ⟨rfl, h2⟩, c5, c6, rfl, ⟨rfl, h3⟩, rfl⟩ := H'
  exact ⟨rfl, h1, h2, h3⟩
 ·rintro ⟨rfl, h1, h2, h3⟩
  exact ⟨[cc], [.int .i64 pl, .int .u64 sd], rfl, ⟨rfl, h1⟩, [.int .i64 pl], [.int .u64 sd], rfl, ⟨rfl, h2⟩, [.int .u64 sd], [], rfl, ⟨rfl, h3⟩, rfl⟩
structure SrcB (code : List D) (h : List Blk) (D0 : Int → Int → D) : Prop where
 out : ∀ {B : Nat} {w : World} {M : MM}, MInv B w M h → ∀ {pl sd : Int} {cs : List Value}, repD M.O w (D0 pl sd) cs → ∃ cc, cs = [cc, .int .i64 pl, .int .u64 sd] ∧ repD M.O w (.lst code) [cc] ∧
  ∀ (O : List Nat) (w' : World) (pl' sd' : Int), (∀ y, y ∉ M.O → y < w.heap.size → y ∉ O ∧ w'.heap[y]? = w.heap[y]?) → stOK pl' sd' → repD O w' (D0 pl' sd') [cc, .int .i64 pl', .int .u64 sd']
theorem SrcB.d {code : List D} {h : List Blk} : SrcB code h (srcD code) where
 out {B w M} hI {pl sd cs} H := by
  obtain ⟨cc, rfl, h1, h2, h3⟩ := srcD_rep.1 H
  refine ⟨cc, rfl, h1, fun O w' pl' sd' hx hs => srcD_rep.2 ⟨cc, rfl, repD_mv hx _ _ h1, stOK_in hs⟩⟩
theorem SrcB.r {code : List D} {h : List Blk} {cc : Value} {k : Nat} {e0 : Env} {f0 : Nat → Value} (hk : h[k]? = some (.keep e0 f0)) (he : gt e0 0 = .d (.lst code)) (hf : f0 0 = cc) : SrcB code h (srcR cc) where
 out {B w M} hI {pl sd cs} H := by
  obtain ⟨rfl, h1, h2, h3⟩ := srcR_rep.1 H
  obtain ⟨m, hm⟩ := at_lt (xs := M) (k := k) (by rw [hI.len]; exact (List.getElem?_eq_some_iff.1 hk).1)
  have hkeep := hI.blk k _ _ hk hm
  have h4 : rep w M h (gt e0 0) (f0 0) := hkeep 0
  rw [he, hf] at h4
  have h5 : repD M.O w (.lst code) [cc] := by
   have := rep1_of_rep (v := .d (.lst code)) rfl h4
   exact this
  refine ⟨cc, rfl, h5, fun O w' pl' sd' hx hs => srcR_rep.2 ⟨rfl, h1, stOK_in hs⟩⟩
theorem PEs.call {P : Program} {f : FuncId} {code : List D} {c : Int} {rest : List V} {Q : V → Prop} (pe : PEs P f code c rest Q) {pl sd : Int} {D0 : Int → Int → D} {b : Nat} {e : Env} {h : List Blk} {K : V → Env → List Blk → Prop} {v0 : V}
  (hv : ∀ (w : World) (M : MM) (h : List Blk) (cs : List Value), repC w M h v0 cs → repC w M h (.d (D0 pl sd)) cs) (hs : SrcB code h D0) (hb : h[b]? = some (.box v0)) (hb0 : Nat.ble 1 b = true) (hr : plains rest = true) (hst : stOK pl sd) (hpl : pl + c ≤ 4611686018427387904)
  (H : ∀ v pl' sd', Q v → pl ≤ pl' → pl' ≤ pl + c → stOK pl' sd' → K v e (h.set b (.box (.d (D0 pl' sd'))))) : CallM P f (.pB b [] 0 :: rest) e h K where
 fn := pe.fn
 run B X N M a w args R hargs := by
  obtain ⟨c0, args, rfl, h1, h2⟩ := hargs
  have h2' := plains_rep (w' := w) (M' := [none]) (h' := [.gone]) rest args hr h2
  have hb1 : 1 ≤ b := Nat.le_of_ble_eq_true hb0
  obtain ⟨g, F, m1, rfl⟩ := rep_pB.1 (rep_of_rep1 h1)
  obtain ⟨rfl, arr, t, hg, hcs⟩ : F = [] ∧ ∃ arr t, w.heap[g]? = some (.cells arr t (0, 0)) ∧ repC w M h v0 arr.toList := R.inv.blk b _ _ hb m1
  obtain ⟨cc, ha, k1, k2⟩ := hs.out R.inv (hv _ _ _ _ hcs)
  obtain rfl : arr = #[cc, .int .i64 pl, .int .u64 sd] := by
   apply Array.toList_inj.1
   exact ha
  have hgO : g ∈ M.O := mem_O m1 (by simp [mO])
  have kg : repD [g] w (.lst code) [cc] := by
   refine repD_mv (fun y hy _ => ⟨fun q => ?_, rfl⟩) _ _ k1
   have hyg : y = g := by simpa using q
   exact hy (hyg ▸ hgO)
  refine (pe.run pl sd w g t cc args hst hpl hg kg h2').mono ?_
  rintro en w' ⟨v, cv, pl', sd', qv, p1, p2, p3, rfl, q1, q4, q2⟩
  have hxB : Ext B w' := by
   have hlo := R.inv.lo b _ _ hb m1 rfl
   refine Below.trans R.ext ⟨q2.os, q2.tape, q2.output, q2.size, fun k hk => q2.ch k (Nat.lt_of_lt_of_le hk R.base) (fun hm => ?_)⟩
   have := hlo k (by simpa [mO] using hm)
   omega
  obtain ⟨M', R', _, _⟩ := R.reset (w' := w') hxB m1 (by omega) hb (.inl rfl) [] [] (by simp) (by simp) (by simp) (by simp) (m' := some (g, [])) q2.nd
   (fun x hx => .inl hx) q2.hi q2.size (fun x hx hxm => q2.ch x hx hxm) (k' := .box (.d (D0 pl' sd'))) rfl
   (fun _ g1 F1 e1 => by
    cases e1
    refine ⟨⟨[], rfl⟩, ?_, fun arr1 t1 hg1 => ?_⟩
    ·simp only [nOf, hb, List.getElem?_set_self (List.getElem?_eq_some_iff.1 hb).1]
    ·rw [hg] at hg1
     cases hg1
     exact ⟨_, q4, rfl⟩)
   (fun M' h' hx => ⟨rfl, _, t, q4, k2 _ _ _ _ hx p3⟩)
  exact ⟨v, cv, e, _, M', rfl, H v pl' sd' qv p1 p2 p3, R', q1 _ _⟩
section
variable {P : Program} {f : FuncId} {code : List D} {c : Int} {rest : List V} {Q : V → Prop} {pl sd : Int} {b : Nat} {e : Env} {h : List Blk} {K : V → Env → List Blk → Prop}
end
def eQ (tt : TT) (rs : List ResultVar) (c pl : Int) (Q : V → Prop) (cc : Value) (G : Blk) : Post
 | .normal => fun e h => retV tt rs e h fun va => Q va ∧ va.resOK = true ∧ ∃ pl' sd' r, pl ≤ pl' ∧ pl' ≤ pl + c ∧ stOK pl' sd' ∧ h = .gone :: G :: .box (.d (srcR cc pl' sd')) :: r
 | .ret => fun e h => retV tt rs e h fun va => Q va ∧ va.resOK = true ∧ ∃ pl' sd' r, pl ≤ pl' ∧ pl' ≤ pl + c ∧ stOK pl' sd' ∧ h = .gone :: G :: .box (.d (srcR cc pl' sd')) :: r
 | .exit _ => fun _ _ => False
theorem pe_intro {P : Program} {tt : TT} (hT : TOk P tt) (hm : P.follows .mixedOrders = true) {f : FuncId} {fn : Func} {cd : Code} (hf : P.funcs[f]? = some fn) (hb : fn.body = some cd) (hname : (fn.name == "runtime.NumGoroutine") = false)
  (hN : codeB fn.ntmps cd = true) {code : List D} {c : Int} {rest : List V} (hA : Nat.ble (rest.length + 1) fn.ntmps = true) {Q : V → Prop} (hrp : plains rest = true)
  (H : ∀ (k : Nat → Option Obj) (s g : Nat) (t : TypeId) (cc : Value) (pl sd : Int), wfVs rest → stOK pl sd → pl + c ≤ 4611686018427387904 →
   wpC P tt cd (eQ tt fn.results.toList c pl Q cc (.gho k s g 4 t)) (argE 0 (.pB 2 [] 0 :: rest)) [.gone, .gho k s g 4 t, .box (.d (srcR cc pl sd)), .keep [(0, .d (.lst code))] (fun _ => cc)]) : PEs P f code c rest Q where
 fn := ⟨fn, hf, hname, by rw [hb]; rfl⟩
 run := fun pl sd w g t cc args hst hpl hg hcode hargs => by
  have hO : MM.O [none, none, some (g, []), none] = [g] := by simp [MM.O, mO]
  have hglt := lt_of_heap hg
  let fr : Nat → Option Obj := fun b => if b ∈ [g] then none else w.heap[b]?
  have hfr : ∀ b o, fr b = some o → b ∉ [g] ∧ w.heap[b]? = some o := fun b o hc => by
   simp only [fr] at hc
   split at hc
   ·cases hc
   ·rename_i hm'; exact ⟨hm', hc⟩
  have hlenT : ∀ (vs : List V) (cs : List Value), repT w [none] [.gone] vs cs → cs.length = vs.length := by
   intro vs
   induction vs with
   | nil => intro cs H; cases H; rfl
   | cons v vs ih => intro cs H; obtain ⟨c, cs', rfl, _, h2⟩ := H; simp [ih _ h2]
  have hl := hlenT rest args hargs
  have hA' := Nat.le_of_ble_eq_true hA
  have hcc1 : cc.oneCell' = true := repD_one (.lst code) [cc] hcode cc (by simp)
  have hargs2 : repT w [none, none, some (g, []), none] [.gone, .gho fr w.heap.size g 4 t, .box (.d (srcR cc pl sd)), .keep [(0, .d (.lst code))] (fun _ => cc)] (.pB 2 [] 0 :: rest) (.pointer (some ⟨g, 0, none⟩) :: args) := by
   refine ⟨_, args, rfl, rep1_of_rep rfl (rep_pB.2 ⟨g, [], rfl, rfl⟩), plains_rep rest args hrp hargs⟩
  have R : Rep { w with heap := #[] } [] fn.ntmps [none, none, some (g, []), none] (argE 0 (.pB 2 [] 0 :: rest)) [.gone, .gho fr w.heap.size g 4 t, .box (.d (srcR cc pl sd)), .keep [(0, .d (.lst code))] (fun _ => cc)]
    { tmps := (.pointer (some ⟨g, 0, none⟩) :: args).toArray ++ Array.replicate (fn.ntmps - (Value.pointer (some ⟨g, 0, none⟩) :: args).toArray.size) Go.undef, defers := [] } w := {
   ext := ⟨rfl, rfl, rfl, Nat.zero_le _, fun k hk => by simp at hk⟩
   inv := ⟨rfl, fun b k m hk hm => by
     match b, hk, hm with
     | 0, hk, hm => simp at hk; subst hk; trivial
     | 1, hk, hm =>
      simp at hk hm
      subst hk
      exact ⟨fun b o hc => by rw [hO]; exact hfr b o hc, Nat.le_refl _, [], rfl, .inr ⟨_, hg, rfl⟩⟩
     | 2, hk, hm =>
      simp at hk hm
      subst hk
      subst hm
      exact ⟨rfl, _, t, hg, srcR_rep.2 ⟨rfl, hcc1, stOK_in hst⟩⟩
     | 3, hk, hm =>
      simp at hk hm
      subst hk
      intro k
      cases k with
      | zero =>
       refine rep_of_rep1 ?_
       show repD (MM.O [none, none, some (g, []), none]) w (.lst code) [cc]
       rw [hO]; exact hcode
      | succ k => trivial
     | b + 4, hk, hm => simp at hk, by rw [hO]; simp, fun _ _ _ _ _ _ g' _ => Nat.zero_le _, by
     rw [hO]
     intro x hx
     have : x = g := by simpa using hx
     subst this
     exact hglt⟩
   env := fun k => by
    rw [argE_get, if_pos (Nat.zero_le _), Nat.sub_zero]
    split
    ·rename_i v hv
     obtain ⟨cc', q1, q2⟩ := repT_get _ _ k v hargs2 hv
     have hk : k < (Value.pointer (some ⟨g, 0, none⟩) :: args).length := (List.getElem?_eq_some_iff.1 q1).1
     have : ((.pointer (some ⟨g, 0, none⟩) :: args).toArray ++ Array.replicate (fn.ntmps - (Value.pointer (some ⟨g, 0, none⟩) :: args).toArray.size) Go.undef).getD k Go.undef = cc' := by
      rw [Array.getD_eq_getD_getElem?, Array.getElem?_append_left (by simpa using hk)]
      simp only [List.getElem?_toArray, q1, Option.getD_some]
     dsimp only
     rw [this]
     exact rep_of_rep1 q2
    ·trivial
   sz := by simp [hl]; omega
   df := rfl
   fr := rfl
   fh := rfl }
  have hwf : wfVs rest := repT_wf _ _ hargs
  refine calls_of_wp hf hb (wp_mono (code_sound hT hm cd _ _ _ _ _ _ hN (H fr w.heap.size g t cc pl sd hwf hst hpl) R) fun x a' w' hx => ?_)
  have fin : ∀ (e : Env) (h : List Blk) (M : MM), retV tt fn.results.toList e h (fun va => Q va ∧ va.resOK = true ∧ ∃ pl' sd' r, pl ≤ pl' ∧ pl' ≤ pl + c ∧ stOK pl' sd' ∧ h = .gone :: .gho fr w.heap.size g 4 t :: .box (.d (srcR cc pl' sd')) :: r) → Rep { w with heap := #[] } [] fn.ntmps M e h a' w' →
    a'.defers = [] ∧ ∃ cv, (results fn a'.tmps).run P w' = .ok cv w' ∧ ∃ v cv' pl' sd', Q v ∧ pl ≤ pl' ∧ pl' ≤ pl + c ∧ stOK pl' sd' ∧ Ending.returned cv = .returned cv' ∧ (∀ M h, rep w' M h v cv') ∧ w'.heap[g]? = some (.cells #[cc, .int .i64 pl', .int .u64 sd'] t (0, 0)) ∧ Kept w w' [g] [g] := by
   intro e h M hr R'
   have post : ∀ {va : V} {cv : Value}, rep w' M h va cv → (Q va ∧ va.resOK = true ∧ ∃ pl' sd' r, pl ≤ pl' ∧ pl' ≤ pl + c ∧ stOK pl' sd' ∧ h = .gone :: .gho fr w.heap.size g 4 t :: .box (.d (srcR cc pl' sd')) :: r) → ∃ v cv' pl' sd', Q v ∧ pl ≤ pl' ∧ pl' ≤ pl + c ∧ stOK pl' sd' ∧ Ending.returned cv = .returned cv' ∧ (∀ M h, rep w' M h v cv') ∧ w'.heap[g]? = some (.cells #[cc, .int .i64 pl', .int .u64 sd'] t (0, 0)) ∧ Kept w w' [g] [g] := by
    rintro va cv hva ⟨hq, hv, pl', sd', r, p1, p2, p3, rfl⟩
    obtain ⟨m1, hm1⟩ := at_lt (xs := M) (k := 1) (by rw [R'.inv.len]; simp)
    obtain ⟨q1, q2, F', q3, q45⟩ : (∀ b o, fr b = some o → b ∉ M.O ∧ w'.heap[b]? = some o) ∧ w.heap.size ≤ w'.heap.size ∧ ∃ F', M[2]? = some (some (g, F')) ∧ (4 = 0 ∨ ∃ arr', w'.heap[g]? = some (.cells arr' t (0, 0)) ∧ arr'.size + 1 = 4) := R'.inv.blk 1 _ _ rfl hm1
    obtain ⟨arr', q4, q5⟩ : ∃ arr', w'.heap[g]? = some (.cells arr' t (0, 0)) ∧ arr'.size + 1 = 4 := by
     rcases q45 with q | q
     ·cases q
     ·exact q
    obtain ⟨rfl, arr2, t2, z1, z2⟩ : F' = [] ∧ ∃ arr t, w'.heap[g]? = some (.cells arr t (0, 0)) ∧ repD M.O w' (srcR cc pl' sd') arr.toList := R'.inv.blk 2 _ _ rfl q3
    rw [q4] at z1
    cases z1
    obtain ⟨z3, _⟩ := srcR_rep.1 z2
    obtain rfl : arr' = #[cc, .int .i64 pl', .int .u64 sd'] := Array.toList_inj.1 z3
    have back : ∀ x, x < w.heap.size → x ∉ [g] → x ∉ M.O ∧ w'.heap[x]? = w.heap[x]? := fun x hx hxm => by
     have e1 : fr x = w.heap[x]? := by simp only [fr]; rw [if_neg hxm]
     have e2 : w.heap[x]? = some w.heap[x] := Array.getElem?_eq_getElem hx
     obtain ⟨u1, u2⟩ := q1 x _ (e1.trans e2)
     exact ⟨u1, by rw [u2, e2]⟩
    exact ⟨va, cv, pl', sd', hq, p1, p2, p3, rfl, fun M h => res_rep hv hva, q4, ⟨R'.ext.os, R'.ext.tape, R'.ext.output, q2, fun x hx hxm => (back x hx hxm).2, by simp, fun x hx => .inl hx, fun x hx => R'.inv.hi x (mem_O q3 hx)⟩⟩
   obtain ⟨vs, cvs, h1, h2, h3, h4⟩ := res_sound hT R' _ _ hr
   refine ⟨R'.df, _, run_results h4, ?_⟩
   match vs, cvs, h2 with
   | [va], [cv], _ =>
    obtain ⟨c', k1, k2⟩ := h3 0 va rfl
    cases k1
    exact post k2 h1
   | [], [], _ => exact post (va := .tup []) (cv := .tuple #[]) ⟨[], rfl, rfl⟩ h1
   | va :: vb :: vs, ca :: cb :: cvs, h2 =>
    exfalso
    dsimp only at h1
    cases hok : okTs (va :: vb :: vs) with
    | false => rw [hok] at h1; exact h1.elim
    | true =>
     rw [hok] at h1
     simp only [cond_true] at h1
     have := h1.2.1
     cases this
  cases x with
  | normal => obtain ⟨e, h, M, k1, k2⟩ := hx; exact fin e h M k1 k2
  | ret => obtain ⟨e, h, M, k1, k2⟩ := hx; exact fin e h M k1 k2
  | exit id => obtain ⟨e, h, M, k1, k2⟩ := hx; exact k1.elim
  | goto l => exact hx.elim
  | panic => exact hx.elim
  | outgrown => exact hx.elim
theorem clr_ {P : Program} {f : FuncId} {code : List D} {c : Int} {rest : List V} {Q : V → Prop} {pl sd : Int} {b : Nat} {e : Env} {h : List Blk} {K : V → Env → List Blk → Prop} {cc : Value} {e0 : Env} {f0 : Nat → Value}
  (pe : PEs P f code c rest Q) (hst : stOK pl sd) (hpl : pl + c ≤ 4611686018427387904) {G : V → Int → Int → Prop} (H : ∀ v pl' sd', Q v → pl ≤ pl' → pl' ≤ pl + c → stOK pl' sd' → G v pl' sd') (hb : h[b]? = some (.box (.d (srcR cc pl sd))) := by rfl)
  (hk3 : h[3]? = some (.keep e0 f0) := by rfl) (he : gt e0 0 = .d (.lst code) := by rfl) (hf : f0 0 = cc := by rfl) (hb0 : Nat.ble 1 b = true := by rfl) (hr : plains rest = true := by rfl)
  (hk : ∀ v pl' sd', G v pl' sd' → K v e (h.set b (.box (.d (srcR cc pl' sd')))) := by (intro v pl' sd' H; (conv => whnf); exact H)) : CallW P false f (.pB b [] 0 :: rest) e h K :=
 ⟨.inr ⟨rfl, pe.call (fun _ _ _ _ H => H) (SrcB.r hk3 he hf) hb hb0 hr hst hpl (fun v pl' sd' q1 q2 q3 q4 => hk _ _ _ (H v pl' sd' q1 q2 q3 q4))⟩⟩
structure PZ (P : Program) (f : FuncId) (code : List D) (c : Int) (rest : List V) (Q : V → List Blk → Prop) : Prop where
 fn : ∃ fn, P.funcs[f]? = some fn ∧ (fn.name == "runtime.NumGoroutine") = false ∧ fn.body.isNone = false
 run : ∀ (pl sd : Int) (w : World) (g : Nat) (t : TypeId) (cc : Value) (args : List Value), stOK pl sd → pl + c ≤ 4611686018427387904 → w.heap[g]? = some (.cells #[cc, .int .i64 pl, .int .u64 sd] t (0, 0)) → repD [g] w (.lst code) [cc] → repT w [none] [.gone] rest args →
  Calls P f (.pointer (some ⟨g, 0, none⟩) :: args).toArray w fun en w' => ∃ v bs cv M' pl' sd', Q v bs ∧ pl ≤ pl' ∧ pl' ≤ pl + c ∧ stOK pl' sd' ∧ en = .returned cv ∧ MInv 0 w' (none :: M') (.gone :: bs) ∧ rep w' (none :: M') (.gone :: bs) v cv ∧ (∀ x ∈ MM.O M', w.heap.size ≤ x) ∧
   w'.heap[g]? = some (.cells #[cc, .int .i64 pl', .int .u64 sd'] t (0, 0)) ∧ Kept w w' [g] [g]
theorem PZ.call {P : Program} {f : FuncId} {code : List D} {c : Int} {rest : List V} {Q : V → List Blk → Prop} (pz : PZ P f code c rest Q) {pl sd : Int} {D0 : Int → Int → D} {b : Nat} {e : Env} {h : List Blk} {K : V → Env → List Blk → Prop} {v0 : V}
  (hv : ∀ (w : World) (M : MM) (h : List Blk) (cs : List Value), repC w M h v0 cs → repC w M h (.d (D0 pl sd)) cs) (hs : SrcB code h D0) (hb : h[b]? = some (.box v0)) (hb0 : Nat.ble 1 b = true) (hr : plains rest = true) (hst : stOK pl sd) (hpl : pl + c ≤ 4611686018427387904)
  (H : ∀ v bs pl' sd', Q v bs → pl ≤ pl' → pl' ≤ pl + c → stOK pl' sd' → (v.fit true && fitBs true bs) = true ∧ K (v.shift (h.length - 1)) e (h.set b (.box (.d (D0 pl' sd'))) ++ shiftBs (h.length - 1) bs)) : CallM P f (.pB b [] 0 :: rest) e h K where
 fn := pz.fn
 run B X N M a w args R hargs := by
  obtain ⟨c0, args, rfl, h1, h2⟩ := hargs
  have h2' := plains_rep (w' := w) (M' := [none]) (h' := [.gone]) rest args hr h2
  have hb1 : 1 ≤ b := Nat.le_of_ble_eq_true hb0
  have hbl : b < h.length := (List.getElem?_eq_some_iff.1 hb).1
  obtain ⟨g, F, m1, rfl⟩ := rep_pB.1 (rep_of_rep1 h1)
  obtain ⟨rfl, arr, t, hg, hcs⟩ : F = [] ∧ ∃ arr t, w.heap[g]? = some (.cells arr t (0, 0)) ∧ repC w M h v0 arr.toList := R.inv.blk b _ _ hb m1
  obtain ⟨cc, ha, k1, k2⟩ := hs.out R.inv (hv _ _ _ _ hcs)
  obtain rfl : arr = #[cc, .int .i64 pl, .int .u64 sd] := by
   apply Array.toList_inj.1
   exact ha
  have hgO : g ∈ M.O := mem_O m1 (by simp [mO])
  have hglt := lt_of_heap hg
  have kg : repD [g] w (.lst code) [cc] := by
   refine repD_mv (fun y hy _ => ⟨fun q => ?_, rfl⟩) _ _ k1
   have hyg : y = g := by simpa using q
   exact hy (hyg ▸ hgO)
  refine (pz.run pl sd w g t cc args hst hpl hg kg h2').mono ?_
  rintro en w' ⟨v, bs, cv, Mn, pl', sd', qv, p1, p2, p3, rfl, qI, qr, qlo, q4, q2⟩
  obtain ⟨hf, HK⟩ := H v bs pl' sd' qv p1 p2 p3
  simp only [Bool.and_eq_true] at hf
  obtain ⟨hf1, hf2⟩ := hf
  -- the world with the source turned, ahead of the new blocks
  obtain ⟨w1, hw1⟩ : ∃ w1 : World, w1 = { w' with heap := w'.heap.extract 0 w.heap.size } := ⟨_, rfl⟩
  have s1 : w1.heap.size = w.heap.size := by
   rw [hw1]
   have := q2.size
   simp only [Array.size_extract]
   omega
  have g1 : ∀ x, x < w.heap.size → w1.heap[x]? = w'.heap[x]? := fun x hx => by
   rw [hw1]
   have := q2.size
   simp only
   rw [Array.getElem?_extract, if_pos (by omega), Nat.zero_add]
  have hx1 : Ext B w1 := by
   have hlo := R.inv.lo b _ _ hb m1 rfl
   have : Ext B w1 := Below.trans R.ext ⟨by rw [hw1]; exact q2.os, by rw [hw1]; exact q2.tape, by rw [hw1]; exact q2.output, by rw [s1]; exact Nat.le_refl _, fun k hk => by
    have hkw : k < w.heap.size := Nat.lt_of_lt_of_le hk R.base
    rw [g1 k hkw]
    refine q2.ch k hkw (fun hm => ?_)
    have := hlo k (by simpa [mO] using hm)
    omega⟩
   exact this
  obtain ⟨M', R', _, _⟩ := R.reset (w' := w1) hx1 m1 (by omega) hb (.inl rfl) [] [] (by simp) (by simp) (by simp) (by simp) (m' := some (g, [])) q2.nd
   (fun x hx => .inl hx) (fun x hx => by
    have hxg : x = g := by simpa [mO] using hx
    rw [s1, hxg]; exact hglt) (Nat.le_of_eq s1.symm) (fun x hx hxm => by rw [g1 x hx]; exact q2.ch x hx hxm) (k' := .box (.d (D0 pl' sd'))) rfl
   (fun _ ga F1 e1 => by
    cases e1
    refine ⟨⟨[], rfl⟩, ?_, fun arr1 t1 hg1 => ?_⟩
    ·simp only [nOf, hb, List.getElem?_set_self hbl]
    ·rw [hg] at hg1
     cases hg1
     exact ⟨#[cc, .int .i64 pl', .int .u64 sd'], by rw [g1 g hglt]; exact q4, rfl⟩)
   (fun M' h' hx => ⟨rfl, _, t, by rw [g1 g hglt]; exact q4, k2 _ _ _ _ hx p3⟩)
  simp only [dropE, dropK, goneL] at R'
  have hx : Ext w1 w' := by
   have : Ext w1 w' := ⟨by rw [hw1], by rw [hw1], by rw [hw1], by rw [s1]; exact q2.size, fun k hk => by rw [s1] at hk; exact (g1 k hk).symm⟩
   exact this
  have hlen : Mn.length = bs.length := by have := qI.len; simpa using this
  have hlo' : ∀ x ∈ MM.O Mn, w1.heap.size ≤ x := fun x hx => by rw [s1]; exact qlo x hx
  have hnd' : (MM.O Mn).Nodup := by
   have := qI.nd
   rw [O_cons] at this
   exact (List.nodup_append.1 this).2.1
  have hhi' : ∀ g ∈ (MM.O Mn), g < w'.heap.size := fun g hg => qI.hi g (by rw [O_cons]; exact List.mem_append_right _ hg)
  have hl' : (h.set b (.box (.d (D0 pl' sd')))).length = h.length := List.length_set
  have S : Sh true [] M' (h.set b (.box (.d (D0 pl' sd')))) := ⟨R'.inv.len, by rw [hl']; omega, .inl rfl⟩
  have mv : Mv (fun _ => True) w1 M' (h.set b (.box (.d (D0 pl' sd')))) w' (M' ++ Mn) (h.set b (.box (.d (D0 pl' sd'))) ++ shiftBs (h.length - 1) bs) := push_mv R'.inv.len hx R'.inv.hi hlo'
  have e0 : (mX [] : Option (Nat × List Nat)) = none := rfl
  refine ⟨_, cv, _, _, M' ++ Mn, rfl, HK, R'.step (R'.ext.trans hx) (R'.inv.push R'.base hx (by rw [shiftBs_len]; exact hlen) hnd' hlo' hhi' ?_) mv (fr_push R'.fr _) (fr_push R'.fh _), ?_⟩
  ·intro j k m hk hm
   rw [shiftBs_get] at hk
   obtain ⟨k0, hk0, rfl⟩ := Option.map_eq_some_iff.1 hk
   have := BRep_sh S (fitBs_get bs j k0 hf2 hk0) (qI.blk (j + 1) k0 m (by simpa using hk0) (by simpa using hm))
   rw [hl'] at this
   exact this
  ·have := rep_sh S hf1 qr
   rw [hl'] at this
   exact this
section
variable {P : Program} {f : FuncId} {code : List D} {c : Int} {rest : List V} {Q : V → List Blk → Prop} {pl sd : Int} {b : Nat} {e : Env} {h : List Blk} {K : V → Env → List Blk → Prop}
theorem clz0_ (pz : PZ P f code c rest Q) (hpl : 0 + c ≤ 4611686018427387904) {G : V → List Blk → Int → Int → Prop} (H : ∀ v bs pl' sd', Q v bs → 0 ≤ pl' → pl' ≤ 0 + c → stOK pl' sd' → (v.fit true && fitBs true bs) = true ∧ G v bs pl' sd') (hb : h[b]? = some (.box (.st [.d (.lst code), .d (.int .i64 0), .d (.int .u64 0)])) := by rfl)
  (hb0 : Nat.ble 1 b = true := by rfl) (hr : plains rest = true := by rfl) (hk : ∀ v bs pl' sd', G v bs pl' sd' → K (v.shift (h.length - 1)) e (h.set b (.box (.d (srcD code pl' sd'))) ++ shiftBs (h.length - 1) bs) := by (intro v bs pl' sd' H; exact H)) : CallW P false f (.pB b [] 0 :: rest) e h K :=
 ⟨.inr ⟨rfl, pz.call (D0 := srcD code) (v0 := .st [.d (.lst code), .d (.int .i64 0), .d (.int .u64 0)]) (pl := 0) (sd := 0) (fun _ _ _ _ H => H) SrcB.d hb hb0 hr (by unfold stOK; simp) hpl (fun v bs pl' sd' q1 q2 q3 q4 => ⟨(H v bs pl' sd' q1 q2 q3 q4).1, hk _ _ _ _ (H v bs pl' sd' q1 q2 q3 q4).2⟩)⟩⟩
end
theorem clzr_ {P : Program} {f : FuncId} {code : List D} {c : Int} {rest : List V} {Q : V → List Blk → Prop} {pl sd : Int} {b : Nat} {e : Env} {h : List Blk} {K : V → Env → List Blk → Prop} {cc : Value} {e0 : Env} {f0 : Nat → Value}
  (pz : PZ P f code c rest Q) (hst : stOK pl sd) (hpl : pl + c ≤ 4611686018427387904) {G : V → List Blk → Int → Int → Prop} (H : ∀ v bs pl' sd', Q v bs → pl ≤ pl' → pl' ≤ pl + c → stOK pl' sd' → (v.fit true && fitBs true bs) = true ∧ G v bs pl' sd') (hb : h[b]? = some (.box (.d (srcR cc pl sd))) := by rfl)
  (hk3 : h[3]? = some (.keep e0 f0) := by rfl) (he : gt e0 0 = .d (.lst code) := by rfl) (hf : f0 0 = cc := by rfl) (hb0 : Nat.ble 1 b = true := by rfl) (hr : plains rest = true := by rfl)
  (hk : ∀ v bs pl' sd', G v bs pl' sd' → K (v.shift (h.length - 1)) e (h.set b (.box (.d (srcR cc pl' sd'))) ++ shiftBs (h.length - 1) bs) := by (intro v bs pl' sd' H; exact H)) : CallW P false f (.pB b [] 0 :: rest) e h K :=
 ⟨.inr ⟨rfl, pz.call (fun _ _ _ _ H => H) (SrcB.r hk3 he hf) hb hb0 hr hst hpl (fun v bs pl' sd' q1 q2 q3 q4 => ⟨(H v bs pl' sd' q1 q2 q3 q4).1, hk _ _ _ _ (H v bs pl' sd' q1 q2 q3 q4).2⟩)⟩⟩
def zQ (tt : TT) (rs : List ResultVar) (c pl : Int) (Q : V → List Blk → Prop) (cc : Value) (G : Blk) : Post
 | .normal => fun e h => retV tt rs e h fun va => ∃ v bs, Q v bs ∧ RetOK h va v bs ∧ ∃ pl' sd' r, pl ≤ pl' ∧ pl' ≤ pl + c ∧ stOK pl' sd' ∧ h = .gone :: G :: .box (.d (srcR cc pl' sd')) :: r
 | .ret => fun e h => retV tt rs e h fun va => ∃ v bs, Q v bs ∧ RetOK h va v bs ∧ ∃ pl' sd' r, pl ≤ pl' ∧ pl' ≤ pl + c ∧ stOK pl' sd' ∧ h = .gone :: G :: .box (.d (srcR cc pl' sd')) :: r
 | .exit _ => fun _ _ => False
theorem pz_intro {P : Program} {tt : TT} (hT : TOk P tt) (hm : P.follows .mixedOrders = true) {f : FuncId} {fn : Func} {cd : Code} (hf : P.funcs[f]? = some fn) (hb : fn.body = some cd) (hname : (fn.name == "runtime.NumGoroutine") = false)
  (hN : codeB fn.ntmps cd = true) {code : List D} {c : Int} {rest : List V} (hA : Nat.ble (rest.length + 1) fn.ntmps = true) {Q : V → List Blk → Prop} (hrp : plains rest = true)
  (H : ∀ (k : Nat → Option Obj) (s g : Nat) (t : TypeId) (cc : Value) (pl sd : Int), wfVs rest → stOK pl sd → pl + c ≤ 4611686018427387904 →
   wpC P tt cd (zQ tt fn.results.toList c pl Q cc (.gho k s g 4 t)) (argE 0 (.pB 2 [] 0 :: rest)) [.gone, .gho k s g 4 t, .box (.d (srcR cc pl sd)), .keep [(0, .d (.lst code))] (fun _ => cc)]) : PZ P f code c rest Q where
 fn := ⟨fn, hf, hname, by rw [hb]; rfl⟩
 run := fun pl sd w g t cc args hst hpl hg hcode hargs => by
  have hO : MM.O [none, none, some (g, []), none] = [g] := by simp [MM.O, mO]
  have hglt := lt_of_heap hg
  let fr : Nat → Option Obj := fun b => if b ∈ [g] then none else w.heap[b]?
  have hfr : ∀ b o, fr b = some o → b ∉ [g] ∧ w.heap[b]? = some o := fun b o hc => by
   simp only [fr] at hc
   split at hc
   ·cases hc
   ·rename_i hm'; exact ⟨hm', hc⟩
  have hlenT : ∀ (vs : List V) (cs : List Value), repT w [none] [.gone] vs cs → cs.length = vs.length := by
   intro vs
   induction vs with
   | nil => intro cs H; cases H; rfl
   | cons v vs ih => intro cs H; obtain ⟨c, cs', rfl, _, h2⟩ := H; simp [ih _ h2]
  have hl := hlenT rest args hargs
  have hA' := Nat.le_of_ble_eq_true hA
  have hcc1 : cc.oneCell' = true := repD_one (.lst code) [cc] hcode cc (by simp)
  have hargs2 : repT w [none, none, some (g, []), none] [.gone, .gho fr w.heap.size g 4 t, .box (.d (srcR cc pl sd)), .keep [(0, .d (.lst code))] (fun _ => cc)] (.pB 2 [] 0 :: rest) (.pointer (some ⟨g, 0, none⟩) :: args) := by
   refine ⟨_, args, rfl, rep1_of_rep rfl (rep_pB.2 ⟨g, [], rfl, rfl⟩), plains_rep rest args hrp hargs⟩
  have R : Rep { w with heap := #[] } [] fn.ntmps [none, none, some (g, []), none] (argE 0 (.pB 2 [] 0 :: rest)) [.gone, .gho fr w.heap.size g 4 t, .box (.d (srcR cc pl sd)), .keep [(0, .d (.lst code))] (fun _ => cc)]
    { tmps := (.pointer (some ⟨g, 0, none⟩) :: args).toArray ++ Array.replicate (fn.ntmps - (Value.pointer (some ⟨g, 0, none⟩) :: args).toArray.size) Go.undef, defers := [] } w := {
   ext := ⟨rfl, rfl, rfl, Nat.zero_le _, fun k hk => by simp at hk⟩
   inv := ⟨rfl, fun b k m hk hm => by
     match b, hk, hm with
     | 0, hk, hm => simp at hk; subst hk; trivial
     | 1, hk, hm =>
      simp at hk hm
      subst hk
      exact ⟨fun b o hc => by rw [hO]; exact hfr b o hc, Nat.le_refl _, [], rfl, .inr ⟨_, hg, rfl⟩⟩
     | 2, hk, hm =>
      simp at hk hm
      subst hk
      subst hm
      exact ⟨rfl, _, t, hg, srcR_rep.2 ⟨rfl, hcc1, stOK_in hst⟩⟩
     | 3, hk, hm =>
      simp at hk hm
      subst hk
      intro k
      cases k with
      | zero =>
       refine rep_of_rep1 ?_
       show repD (MM.O [none, none, some (g, []), none]) w (.lst code) [cc]
       rw [hO]; exact hcode
      | succ k => trivial
     | b + 4, hk, hm => simp at hk, by rw [hO]; simp, fun _ _ _ _ _ _ g' _ => Nat.zero_le _, by
     rw [hO]
     intro x hx
     have : x = g := by simpa using hx
     subst this
     exact hglt⟩
   env := fun k => by
    rw [argE_get, if_pos (Nat.zero_le _), Nat.sub_zero]
    split
    ·rename_i v hv
     obtain ⟨cc', q1, q2⟩ := repT_get _ _ k v hargs2 hv
     have hk : k < (Value.pointer (some ⟨g, 0, none⟩) :: args).length := (List.getElem?_eq_some_iff.1 q1).1
     have : ((.pointer (some ⟨g, 0, none⟩) :: args).toArray ++ Array.replicate (fn.ntmps - (Value.pointer (some ⟨g, 0, none⟩) :: args).toArray.size) Go.undef).getD k Go.undef = cc' := by
      rw [Array.getD_eq_getD_getElem?, Array.getElem?_append_left (by simpa using hk)]
      simp only [List.getElem?_toArray, q1, Option.getD_some]
     dsimp only
     rw [this]
     exact rep_of_rep1 q2
    ·trivial
   sz := by simp [hl]; omega
   df := rfl
   fr := rfl
   fh := rfl }
  have hwf : wfVs rest := repT_wf _ _ hargs
  refine calls_of_wp hf hb (wp_mono (code_sound hT hm cd _ _ _ _ _ _ hN (H fr w.heap.size g t cc pl sd hwf hst hpl) R) fun x a' w' hx => ?_)
  have fin : ∀ (e : Env) (h : List Blk) (M : MM), retV tt fn.results.toList e h (fun va => ∃ v bs, Q v bs ∧ RetOK h va v bs ∧ ∃ pl' sd' r, pl ≤ pl' ∧ pl' ≤ pl + c ∧ stOK pl' sd' ∧ h = .gone :: .gho fr w.heap.size g 4 t :: .box (.d (srcR cc pl' sd')) :: r) → Rep { w with heap := #[] } [] fn.ntmps M e h a' w' →
    a'.defers = [] ∧ ∃ cv, (results fn a'.tmps).run P w' = .ok cv w' ∧ ∃ v bs cv' M' pl' sd', Q v bs ∧ pl ≤ pl' ∧ pl' ≤ pl + c ∧ stOK pl' sd' ∧ Ending.returned cv = .returned cv' ∧ MInv 0 w' (none :: M') (.gone :: bs) ∧ rep w' (none :: M') (.gone :: bs) v cv' ∧ (∀ x ∈ MM.O M', w.heap.size ≤ x) ∧ w'.heap[g]? = some (.cells #[cc, .int .i64 pl', .int .u64 sd'] t (0, 0)) ∧ Kept w w' [g] [g] := by
   intro e h M hr R'
   have post : ∀ {va : V} {cv : Value}, rep w' M h va cv → (∃ v bs, Q v bs ∧ RetOK h va v bs ∧ ∃ pl' sd' r, pl ≤ pl' ∧ pl' ≤ pl + c ∧ stOK pl' sd' ∧ h = .gone :: .gho fr w.heap.size g 4 t :: .box (.d (srcR cc pl' sd')) :: r) → ∃ v bs cv' M' pl' sd', Q v bs ∧ pl ≤ pl' ∧ pl' ≤ pl + c ∧ stOK pl' sd' ∧ Ending.returned cv = .returned cv' ∧ MInv 0 w' (none :: M') (.gone :: bs) ∧ rep w' (none :: M') (.gone :: bs) v cv' ∧ (∀ x ∈ MM.O M', w.heap.size ≤ x) ∧ w'.heap[g]? = some (.cells #[cc, .int .i64 pl', .int .u64 sd'] t (0, 0)) ∧ Kept w w' [g] [g] := by
    rintro va cv hva ⟨v, bs, hq, hret, pl', sd', r, p1, p2, p3, rfl⟩
    obtain ⟨m1, hm1⟩ := at_lt (xs := M) (k := 1) (by rw [R'.inv.len]; simp)
    obtain ⟨q1, q2, F', q3, q45⟩ : (∀ b o, fr b = some o → b ∉ M.O ∧ w'.heap[b]? = some o) ∧ w.heap.size ≤ w'.heap.size ∧ ∃ F', M[2]? = some (some (g, F')) ∧ (4 = 0 ∨ ∃ arr', w'.heap[g]? = some (.cells arr' t (0, 0)) ∧ arr'.size + 1 = 4) := R'.inv.blk 1 _ _ rfl hm1
    obtain ⟨arr', q4, q5⟩ : ∃ arr', w'.heap[g]? = some (.cells arr' t (0, 0)) ∧ arr'.size + 1 = 4 := by
     rcases q45 with q | q
     ·cases q
     ·exact q
    obtain ⟨rfl, arr2, t2, z1, z2⟩ : F' = [] ∧ ∃ arr t, w'.heap[g]? = some (.cells arr t (0, 0)) ∧ repD M.O w' (srcR cc pl' sd') arr.toList := R'.inv.blk 2 _ _ rfl q3
    rw [q4] at z1
    cases z1
    obtain ⟨z3, _⟩ := srcR_rep.1 z2
    obtain rfl : arr' = #[cc, .int .i64 pl', .int .u64 sd'] := Array.toList_inj.1 z3
    have back : ∀ x, x < w.heap.size → x ∉ [g] → x ∉ M.O ∧ w'.heap[x]? = w.heap[x]? := fun x hx hxm => by
     have e1 : fr x = w.heap[x]? := by simp only [fr]; rw [if_neg hxm]
     have e2 : w.heap[x]? = some w.heap[x] := Array.getElem?_eq_getElem hx
     obtain ⟨u1, u2⟩ := q1 x _ (e1.trans e2)
     exact ⟨u1, by rw [u2, e2]⟩
    obtain ⟨M', y1, y2, y3⟩ := ret_sound3 R' hva hret
    refine ⟨v, bs, cv, M', pl', sd', hq, p1, p2, p3, rfl, y1, y2, fun x hx => ?_, q4, ⟨R'.ext.os, R'.ext.tape, R'.ext.output, q2, fun x hx hxm => (back x hx hxm).2, by simp, fun x hx => .inl hx, fun x hx => R'.inv.hi x (mem_O q3 hx)⟩⟩
    obtain ⟨b, m, n, xs, dp, hbm, hxm, hbb⟩ := y3 x hx
    refine Nat.le_of_not_lt fun hlt => ?_
    refine (back x hlt (fun hxg => ?_)).1 (mem_O hbm hxm)
    have hb2 : b = 2 := by
     have hxg' : x ∈ mO (some (g, [])) := by simpa [mO] using hxg
     exact O_block_inj R'.inv q3 hbm hxg' hxm
    subst hb2
    cases hbb
   obtain ⟨vs, cvs, h1, h2, h3, h4⟩ := res_sound hT R' _ _ hr
   refine ⟨R'.df, _, run_results h4, ?_⟩
   match vs, cvs, h2 with
   | [va], [cv], _ =>
    obtain ⟨c', k1, k2⟩ := h3 0 va rfl
    cases k1
    exact post k2 h1
   | [], [], _ => exact post (va := .tup []) (cv := .tuple #[]) ⟨[], rfl, rfl⟩ h1
   | va :: vb :: vs, ca :: cb :: cvs, h2 =>
    dsimp only at h1
    cases hok : okTs (va :: vb :: vs) with
    | false => rw [hok] at h1; exact h1.elim
    | true =>
     rw [hok] at h1
     simp only [cond_true] at h1
     have hall : ∀ (vs : List V) (cs : List Value), vs.length = cs.length → okTs vs = true → (∀ (i : Nat) (v : V), vs[i]? = some v → ∃ c, cs[i]? = some c ∧ rep w' M h v c) → repT w' M h vs cs := by
      intro vs
      induction vs with
      | nil => intro cs hl _ _; cases cs with
       | nil => rfl
       | cons _ _ => simp at hl
      | cons v vs ih =>
       intro cs hl ho hg
       cases cs with
       | nil => simp at hl
       | cons c cs =>
        simp only [okTs, Bool.and_eq_true] at ho
        obtain ⟨c', k1, k2⟩ := hg 0 v rfl
        cases k1
        exact ⟨c, cs, rfl, rep1_of_rep ho.1 k2, ih cs (by simpa using hl) ho.2 fun i u hi => by simpa using hg (i + 1) u (by simpa using hi)⟩
     exact post (va := .tup (va :: vb :: vs)) (cv := .tuple (ca :: cb :: cvs).toArray) ⟨_, rfl, hall _ _ h2 hok h3⟩ h1
  cases x with
  | normal => obtain ⟨e, h, M, k1, k2⟩ := hx; exact fin e h M k1 k2
  | ret => obtain ⟨e, h, M, k1, k2⟩ := hx; exact fin e h M k1 k2
  | exit id => obtain ⟨e, h, M, k1, k2⟩ := hx; exact k1.elim
  | goto l => exact hx.elim
  | panic => exact hx.elim
  | outgrown => exact hx.elim
theorem share {K S : V → Env → List Blk → Prop} {G : Prop} (h1 : (∀ v e h, S v e h → K v e h) → G) (h2 : ∀ v e h, S v e h → K v e h) : G := h1 h2
theorem PEs.callS {P : Program} {f : FuncId} {code : List D} {c : Int} {rest : List V} {Q : V → Prop} (pe : PEs P f code c rest Q) {pl sd : Int} {D0 : Int → Int → D} {b : Nat} {e : Env} {h : List Blk} {K : V → Env → List Blk → Prop} {v0 : V}
  (hv : ∀ (w : World) (M : MM) (h : List Blk) (cs : List Value), repC w M h v0 cs → repC w M h (.d (D0 pl sd)) cs) (hs : SrcB code h D0) (hb : h[b]? = some (.box v0)) (hb0 : Nat.ble 1 b = true) (hr : plains rest = true) (hst : stOK pl sd) (hpl : pl + c ≤ 4611686018427387904) (hQ : ∀ v, Q v → v.resOK = true)
  (S : V → Env → List Blk → Prop) (H : ∀ v pl' sd', Q v → pl ≤ pl' → pl' ≤ pl + c → stOK pl' sd' → ∃ e0 h0, S v e0 h0 ∧ Weak e (h.set b (.box (.d (D0 pl' sd')))) e0 h0) (HK : ∀ v e h, S v e h → K v e h) : CallM P f (.pB b [] 0 :: rest) e h K where
 fn := pe.fn
 run B X N M a w args R hargs := by
  have hc := pe.call (K := fun v e' h' => v.resOK = true ∧ ∃ e0 h0, S v e0 h0 ∧ Weak e' h' e0 h0) hv hs hb hb0 hr hst hpl (fun v pl' sd' q1 q2 q3 q4 => ⟨hQ v q1, H v pl' sd' q1 q2 q3 q4⟩)
  refine (hc.run B X N M a w args R hargs).mono ?_
  rintro en w' ⟨v, cv, e', h', M', rfl, ⟨hv1, e0, h0, hS, hW⟩, R', hr'⟩
  obtain ⟨M2, R2⟩ := hW _ _ _ _ _ _ R'
  exact ⟨v, cv, e0, h0, M2, rfl, HK v e0 h0 hS, R2, res_rep hv1 hr'⟩
theorem clrS_ {P : Program} {f : FuncId} {code : List D} {c : Int} {rest : List V} {Q : V → Prop} {pl sd : Int} {b : Nat} {e : Env} {h : List Blk} {K : V → Env → List Blk → Prop} {cc : Value} {e1 : Env} {f0 : Nat → Value}
  (pe : PEs P f code c rest Q) (hst : stOK pl sd) (hpl : pl + c ≤ 4611686018427387904) (hQ : ∀ v, Q v → v.resOK = true) (S : V → Env → List Blk → Prop) {h' : Int → Int → List Blk} (H : ∀ v pl' sd', Q v → pl ≤ pl' → pl' ≤ pl + c → stOK pl' sd' → ∃ e0 h0, S v e0 h0 ∧ Weak e (h' pl' sd') e0 h0) (HK : ∀ v e h, S v e h → K v e h) (hb : h[b]? = some (.box (.d (srcR cc pl sd))) := by rfl)
  (hk3 : h[3]? = some (.keep e1 f0) := by rfl) (he : gt e1 0 = .d (.lst code) := by rfl) (hf : f0 0 = cc := by rfl) (hb0 : Nat.ble 1 b = true := by rfl) (hr : plains rest = true := by rfl)
  (hh : ∀ pl' sd', h' pl' sd' = h.set b (.box (.d (srcR cc pl' sd'))) := by (intro _ _; rfl)) : CallW P false f (.pB b [] 0 :: rest) e h K :=
 ⟨.inr ⟨rfl, pe.callS (fun _ _ _ _ H => H) (SrcB.r hk3 he hf) hb hb0 hr hst hpl hQ S (fun v pl' sd' q1 q2 q3 q4 => by rw [← hh]; exact H v pl' sd' q1 q2 q3 q4) HK⟩⟩
theorem on_res {v : V} (h : ∃ b, v = .d (.bool b)) : v.resOK = true := by obtain ⟨x, rfl⟩ := h; rfl
def dxs : List V → Bool
 | [] => true
 | .d _ :: vs => dxs vs
 | .pX _ :: vs => dxs vs
 | _ :: _ => false
theorem dx1_rep {w : World} {M M' : MM} {h h' : List Blk} (hO : M'.O = M.O) {v : V} {cv : Value} (hv : (∃ x, v = .d x) ∨ ∃ x, v = .pX x) (H : rep1 w M h v cv) : rep1 w M' h' v cv := by
 have key : ∀ cs : List Value, repC w M h v cs → repC w M' h' v cs := fun cs hc => by
  rcases hv with ⟨x, rfl⟩ | ⟨x, rfl⟩
  ·show repD M'.O w x cs
   rw [hO]; exact hc
  ·obtain ⟨b, o, ces, e, q1, q2, q3, q4⟩ : ∃ b o ces, cs = [.pointer (some ⟨b, o, none⟩)] ∧ b ∉ M.O ∧ b < w.heap.size ∧ CellsAt w b o ces ∧ repD M.O w x ces := hc
   exact (show ∃ b o ces, cs = [.pointer (some ⟨b, o, none⟩)] ∧ b ∉ M'.O ∧ b < w.heap.size ∧ CellsAt w b o ces ∧ repD M'.O w x ces from ⟨b, o, ces, e, by rw [hO]; exact q1, q2, q3, by rw [hO]; exact q4⟩)
 unfold rep1 at H ⊢
 split at H
 ·rename_i ha
  rw [if_pos ha]
  obtain ⟨cs, e, H⟩ := H
  exact ⟨cs, e, key cs H⟩
 ·rename_i ha
  rw [if_neg ha]
  exact key _ H
theorem dx_repT {w : World} {M M' : MM} {h h' : List Blk} (hO : M'.O = M.O) : ∀ (vs : List V) (cs : List Value), dxs vs = true → repT w M h vs cs → repT w M' h' vs cs
 | [], cs, _, H => H
 | .d x :: vs, cs, hp, H => by
  obtain ⟨c, cs', e, h1, h2⟩ := H
  exact ⟨c, cs', e, dx1_rep hO (.inl ⟨x, rfl⟩) h1, dx_repT hO vs cs' hp h2⟩
 | .pX x :: vs, cs, hp, H => by
  obtain ⟨c, cs', e, h1, h2⟩ := H
  exact ⟨c, cs', e, dx1_rep hO (.inr ⟨x, rfl⟩) h1, dx_repT hO vs cs' hp h2⟩
 | .top :: _, _, hp, _ => by cases hp
 | .undef :: _, _, hp, _ => by cases hp
 | .nils :: _, _, hp, _ => by cases hp
 | .nilp :: _, _, hp, _ => by cases hp
 | .own _ _ _ :: _, _, hp, _ => by cases hp
 | .pB _ _ _ :: _, _, hp, _ => by cases hp
 | .pL _ _ _ _ :: _, _, hp, _ => by cases hp
 | .fn _ _ :: _, _, hp, _ => by cases hp
 | .st _ :: _, _, hp, _ => by cases hp
 | .tup _ :: _, _, hp, _ => by cases hp
def Lent1 (h : List Blk) (b : Nat) (v A : V) : Prop := ∀ (N : Nat) (w : World) (M : MM), MInv N w M h → ∀ (g : Nat), M[b]? = some (some (g, [])) → ∀ c, rep1 w M h v c → rep1 w [none, some (g, [])] [.gone, .gone] A c
def LentT (h : List Blk) (b : Nat) (vs As : List V) : Prop := ∀ (N : Nat) (w : World) (M : MM), MInv N w M h → ∀ (g : Nat), M[b]? = some (some (g, [])) → ∀ cs, repT w M h vs cs → repT w [none, some (g, [])] [.gone, .gone] As cs
theorem LentT.nil {h : List Blk} {b : Nat} : LentT h b [] [] := fun _ _ _ _ _ _ _ H => H
theorem LentT.cons {h : List Blk} {b : Nat} {v A : V} {vs As : List V} (h1 : Lent1 h b v A) (h2 : LentT h b vs As) : LentT h b (v :: vs) (A :: As) := fun N w M hI g hm cs H => by
 obtain ⟨c, cs', e, q1, q2⟩ := H
 exact ⟨c, cs', e, h1 N w M hI g hm c q1, h2 N w M hI g hm cs' q2⟩
theorem sub_O {M : MM} {b g : Nat} (hm : M[b]? = some (some (g, []))) : ∀ x ∈ MM.O [none, some (g, [])], x ∈ M.O := fun x hx => mem_O hm (by simpa [MM.O, mO] using hx)
theorem repD_sub' {w : World} {O O' : List Nat} (hs : ∀ x ∈ O', x ∈ O) {x : D} {cs : List Value} (H : repD O w x cs) : repD O' w x cs := repD_mv (fun y hy _ => ⟨fun q => hy (hs y q), rfl⟩) _ _ H
theorem Lent1.d {h : List Blk} {b : Nat} {x : D} : Lent1 h b (.d x) (.d x) := fun N w M hI g hm c H => by
 unfold rep1 at H ⊢
 split at H
 ·rename_i ha
  rw [if_pos ha]
  obtain ⟨cs, e, H⟩ := H
  exact ⟨cs, e, repD_sub' (sub_O hm) H⟩
 ·rename_i ha
  rw [if_neg ha]
  exact repD_sub' (sub_O hm) H
theorem Lent1.pX {h : List Blk} {b : Nat} {x : D} : Lent1 h b (.pX x) (.pX x) := fun N w M hI g hm c H => by
 obtain ⟨b0, o, ces, e, q1, q2, q3, q4⟩ : ∃ b o ces, [c] = [.pointer (some ⟨b, o, none⟩)] ∧ b ∉ M.O ∧ b < w.heap.size ∧ CellsAt w b o ces ∧ repD M.O w x ces := H
 exact (show ∃ b o ces, [c] = [.pointer (some ⟨b, o, none⟩)] ∧ b ∉ MM.O [none, some (g, [])] ∧ b < w.heap.size ∧ CellsAt w b o ces ∧ repD (MM.O [none, some (g, [])]) w x ces from ⟨b0, o, ces, e, fun hx => q1 (sub_O hm _ hx), q2, q3, repD_sub' (sub_O hm) q4⟩)
structure PZX (P : Program) (f : FuncId) (code : List D) (c : Int) (As : List V) (Q : V → List Blk → Prop) : Prop where
 fn : ∃ fn, P.funcs[f]? = some fn ∧ (fn.name == "runtime.NumGoroutine") = false ∧ fn.body.isNone = false
 run : ∀ (pl sd : Int) (w : World) (g : Nat) (t : TypeId) (cc : Value) (args : List Value), stOK pl sd → pl + c ≤ 4611686018427387904 → w.heap[g]? = some (.cells #[cc, .int .i64 pl, .int .u64 sd] t (0, 0)) → repD [g] w (.lst code) [cc] → repT w [none, some (g, [])] [.gone, .gone] As args →
  Calls P f (.pointer (some ⟨g, 0, none⟩) :: args).toArray w fun en w' => ∃ v bs cv M' pl' sd', Q v bs ∧ pl ≤ pl' ∧ pl' ≤ pl + c ∧ stOK pl' sd' ∧ en = .returned cv ∧ MInv 0 w' (none :: M') (.gone :: bs) ∧ rep w' (none :: M') (.gone :: bs) v cv ∧ (∀ x ∈ MM.O M', w.heap.size ≤ x) ∧
   w'.heap[g]? = some (.cells #[cc, .int .i64 pl', .int .u64 sd'] t (0, 0)) ∧ Kept w w' [g] [g]
theorem PZX.call {P : Program} {f : FuncId} {code : List D} {c : Int} {rest As : List V} {Q : V → List Blk → Prop} (pz : PZX P f code c As Q) {pl sd : Int} {D0 : Int → Int → D} {b : Nat} {e : Env} {h : List Blk} {K : V → Env → List Blk → Prop} {v0 : V}
  (hv : ∀ (w : World) (M : MM) (h : List Blk) (cs : List Value), repC w M h v0 cs → repC w M h (.d (D0 pl sd)) cs) (hs : SrcB code h D0) (hb : h[b]? = some (.box v0)) (hb0 : Nat.ble 1 b = true) (hr : LentT h b rest As) (hst : stOK pl sd) (hpl : pl + c ≤ 4611686018427387904)
  (H : ∀ v bs pl' sd', Q v bs → pl ≤ pl' → pl' ≤ pl + c → stOK pl' sd' → (v.fit true && fitBs true bs) = true ∧ K (v.shift (h.length - 1)) e (h.set b (.box (.d (D0 pl' sd'))) ++ shiftBs (h.length - 1) bs)) : CallM P f (.pB b [] 0 :: rest) e h K where
 fn := pz.fn
 run B X N M a w args R hargs := by
  obtain ⟨c0, args, rfl, h1, h2⟩ := hargs
  have hb1 : 1 ≤ b := Nat.le_of_ble_eq_true hb0
  have hbl : b < h.length := (List.getElem?_eq_some_iff.1 hb).1
  obtain ⟨g, F, m1, rfl⟩ := rep_pB.1 (rep_of_rep1 h1)
  obtain ⟨rfl, arr, t, hg, hcs⟩ : F = [] ∧ ∃ arr t, w.heap[g]? = some (.cells arr t (0, 0)) ∧ repC w M h v0 arr.toList := R.inv.blk b _ _ hb m1
  obtain ⟨cc, ha, k1, k2⟩ := hs.out R.inv (hv _ _ _ _ hcs)
  obtain rfl : arr = #[cc, .int .i64 pl, .int .u64 sd] := by
   apply Array.toList_inj.1
   exact ha
  have hgO : g ∈ M.O := mem_O m1 (by simp [mO])
  have h2' := hr _ _ _ R.inv _ m1 args h2
  have hglt := lt_of_heap hg
  have kg : repD [g] w (.lst code) [cc] := by
   refine repD_mv (fun y hy _ => ⟨fun q => ?_, rfl⟩) _ _ k1
   have hyg : y = g := by simpa using q
   exact hy (hyg ▸ hgO)
  refine (pz.run pl sd w g t cc args hst hpl hg kg h2').mono ?_
  rintro en w' ⟨v, bs, cv, Mn, pl', sd', qv, p1, p2, p3, rfl, qI, qr, qlo, q4, q2⟩
  obtain ⟨hf, HK⟩ := H v bs pl' sd' qv p1 p2 p3
  simp only [Bool.and_eq_true] at hf
  obtain ⟨hf1, hf2⟩ := hf
  -- the world with the source turned, ahead of the new blocks
  obtain ⟨w1, hw1⟩ : ∃ w1 : World, w1 = { w' with heap := w'.heap.extract 0 w.heap.size } := ⟨_, rfl⟩
  have s1 : w1.heap.size = w.heap.size := by
   rw [hw1]
   have := q2.size
   simp only [Array.size_extract]
   omega
  have g1 : ∀ x, x < w.heap.size → w1.heap[x]? = w'.heap[x]? := fun x hx => by
   rw [hw1]
   have := q2.size
   simp only
   rw [Array.getElem?_extract, if_pos (by omega), Nat.zero_add]
  have hx1 : Ext B w1 := by
   have hlo := R.inv.lo b _ _ hb m1 rfl
   have : Ext B w1 := Below.trans R.ext ⟨by rw [hw1]; exact q2.os, by rw [hw1]; exact q2.tape, by rw [hw1]; exact q2.output, by rw [s1]; exact Nat.le_refl _, fun k hk => by
    have hkw : k < w.heap.size := Nat.lt_of_lt_of_le hk R.base
    rw [g1 k hkw]
    refine q2.ch k hkw (fun hm => ?_)
    have := hlo k (by simpa [mO] using hm)
    omega⟩
   exact this
  obtain ⟨M', R', _, _⟩ := R.reset (w' := w1) hx1 m1 (by omega) hb (.inl rfl) [] [] (by simp) (by simp) (by simp) (by simp) (m' := some (g, [])) q2.nd
   (fun x hx => .inl hx) (fun x hx => by
    have hxg : x = g := by simpa [mO] using hx
    rw [s1, hxg]; exact hglt) (Nat.le_of_eq s1.symm) (fun x hx hxm => by rw [g1 x hx]; exact q2.ch x hx hxm) (k' := .box (.d (D0 pl' sd'))) rfl
   (fun _ ga F1 e1 => by
    cases e1
    refine ⟨⟨[], rfl⟩, ?_, fun arr1 t1 hg1 => ?_⟩
    ·simp only [nOf, hb, List.getElem?_set_self hbl]
    ·rw [hg] at hg1
     cases hg1
     exact ⟨#[cc, .int .i64 pl', .int .u64 sd'], by rw [g1 g hglt]; exact q4, rfl⟩)
   (fun M' h' hx => ⟨rfl, _, t, by rw [g1 g hglt]; exact q4, k2 _ _ _ _ hx p3⟩)
  simp only [dropE, dropK, goneL] at R'
  have hx : Ext w1 w' := by
   have : Ext w1 w' := ⟨by rw [hw1], by rw [hw1], by rw [hw1], by rw [s1]; exact q2.size, fun k hk => by rw [s1] at hk; exact (g1 k hk).symm⟩
   exact this
  have hlen : Mn.length = bs.length := by have := qI.len; simpa using this
  have hlo' : ∀ x ∈ MM.O Mn, w1.heap.size ≤ x := fun x hx => by rw [s1]; exact qlo x hx
  have hnd' : (MM.O Mn).Nodup := by
   have := qI.nd
   rw [O_cons] at this
   exact (List.nodup_append.1 this).2.1
  have hhi' : ∀ g ∈ (MM.O Mn), g < w'.heap.size := fun g hg => qI.hi g (by rw [O_cons]; exact List.mem_append_right _ hg)
  have hl' : (h.set b (.box (.d (D0 pl' sd')))).length = h.length := List.length_set
  have S : Sh true [] M' (h.set b (.box (.d (D0 pl' sd')))) := ⟨R'.inv.len, by rw [hl']; omega, .inl rfl⟩
  have mv : Mv (fun _ => True) w1 M' (h.set b (.box (.d (D0 pl' sd')))) w' (M' ++ Mn) (h.set b (.box (.d (D0 pl' sd'))) ++ shiftBs (h.length - 1) bs) := push_mv R'.inv.len hx R'.inv.hi hlo'
  have e0 : (mX [] : Option (Nat × List Nat)) = none := rfl
  refine ⟨_, cv, _, _, M' ++ Mn, rfl, HK, R'.step (R'.ext.trans hx) (R'.inv.push R'.base hx (by rw [shiftBs_len]; exact hlen) hnd' hlo' hhi' ?_) mv (fr_push R'.fr _) (fr_push R'.fh _), ?_⟩
  ·intro j k m hk hm
   rw [shiftBs_get] at hk
   obtain ⟨k0, hk0, rfl⟩ := Option.map_eq_some_iff.1 hk
   have := BRep_sh S (fitBs_get bs j k0 hf2 hk0) (qI.blk (j + 1) k0 m (by simpa using hk0) (by simpa using hm))
   rw [hl'] at this
   exact this
  ·have := rep_sh S hf1 qr
   rw [hl'] at this
   exact this
section
variable {P : Program} {f : FuncId} {code : List D} {c : Int} {rest As : List V} {Q : V → List Blk → Prop} {pl sd : Int} {b : Nat} {e : Env} {h : List Blk} {K : V → Env → List Blk → Prop}
theorem clzx_ (pz : PZX P f code c As Q) (hst : stOK pl sd) (hpl : pl + c ≤ 4611686018427387904) {G : V → List Blk → Int → Int → Prop} (H : ∀ v bs pl' sd', Q v bs → pl ≤ pl' → pl' ≤ pl + c → stOK pl' sd' → (v.fit true && fitBs true bs) = true ∧ G v bs pl' sd') (hb : h[b]? = some (.box (.d (srcD code pl sd))) := by rfl)
  (hb0 : Nat.ble 1 b = true := by rfl) (hr : LentT h b rest As := by (repeat' (first | exact LentT.nil | refine LentT.cons ?_ ?_ | exact Lent1.d | exact Lent1.pX | exact Lent1.box rfl (by decide)))) (hk : ∀ v bs pl' sd', G v bs pl' sd' → K (v.shift (h.length - 1)) e (h.set b (.box (.d (srcD code pl' sd'))) ++ shiftBs (h.length - 1) bs) := by (intro v bs pl' sd' H; exact H)) : CallW P false f (.pB b [] 0 :: rest) e h K :=
 ⟨.inr ⟨rfl, pz.call (fun _ _ _ _ H => H) SrcB.d hb hb0 hr hst hpl (fun v bs pl' sd' q1 q2 q3 q4 => ⟨(H v bs pl' sd' q1 q2 q3 q4).1, hk _ _ _ _ (H v bs pl' sd' q1 q2 q3 q4).2⟩)⟩⟩
end
theorem clzrx_ {P : Program} {f : FuncId} {code : List D} {c : Int} {rest As : List V} {Q : V → List Blk → Prop} {pl sd : Int} {b : Nat} {e : Env} {h : List Blk} {K : V → Env → List Blk → Prop} {cc : Value} {e0 : Env} {f0 : Nat → Value}
  (pz : PZX P f code c As Q) (hst : stOK pl sd) (hpl : pl + c ≤ 4611686018427387904) {G : V → List Blk → Int → Int → Prop} (H : ∀ v bs pl' sd', Q v bs → pl ≤ pl' → pl' ≤ pl + c → stOK pl' sd' → (v.fit true && fitBs true bs) = true ∧ G v bs pl' sd') (hb : h[b]? = some (.box (.d (srcR cc pl sd))) := by rfl)
  (hk3 : h[3]? = some (.keep e0 f0) := by rfl) (he : gt e0 0 = .d (.lst code) := by rfl) (hf : f0 0 = cc := by rfl) (hb0 : Nat.ble 1 b = true := by rfl) (hr : LentT h b rest As := by (repeat' (first | exact LentT.nil | refine LentT.cons ?_ ?_ | exact Lent1.d | exact Lent1.pX | exact Lent1.box rfl (by decide))))
  (hk : ∀ v bs pl' sd', G v bs pl' sd' → K (v.shift (h.length - 1)) e (h.set b (.box (.d (srcR cc pl' sd'))) ++ shiftBs (h.length - 1) bs) := by (intro v bs pl' sd' H; exact H)) : CallW P false f (.pB b [] 0 :: rest) e h K :=
 ⟨.inr ⟨rfl, pz.call (fun _ _ _ _ H => H) (SrcB.r hk3 he hf) hb hb0 hr hst hpl (fun v bs pl' sd' q1 q2 q3 q4 => ⟨(H v bs pl' sd' q1 q2 q3 q4).1, hk _ _ _ _ (H v bs pl' sd' q1 q2 q3 q4).2⟩)⟩⟩
theorem pzx_intro {P : Program} {tt : TT} (hT : TOk P tt) (hm : P.follows .mixedOrders = true) {f : FuncId} {fn : Func} {cd : Code} (hf : P.funcs[f]? = some fn) (hb : fn.body = some cd) (hname : (fn.name == "runtime.NumGoroutine") = false)
  (hN : codeB fn.ntmps cd = true) {code : List D} {c : Int} {As : List V} (hA : Nat.ble (As.length + 1) fn.ntmps = true) {Q : V → List Blk → Prop} (hrp : dxs As = true)
  (H : ∀ (k : Nat → Option Obj) (s g : Nat) (t : TypeId) (cc : Value) (pl sd : Int), wfVs As → stOK pl sd → pl + c ≤ 4611686018427387904 →
   wpC P tt cd (zQ tt fn.results.toList c pl Q cc (.gho k s g 4 t)) (argE 0 (.pB 2 [] 0 :: As)) [.gone, .gho k s g 4 t, .box (.d (srcR cc pl sd)), .keep [(0, .d (.lst code))] (fun _ => cc)]) : PZX P f code c As Q where
 fn := ⟨fn, hf, hname, by rw [hb]; rfl⟩
 run := fun pl sd w g t cc args hst hpl hg hcode hargs => by
  have hO : MM.O [none, none, some (g, []), none] = [g] := by simp [MM.O, mO]
  have hglt := lt_of_heap hg
  let fr : Nat → Option Obj := fun b => if b ∈ [g] then none else w.heap[b]?
  have hfr : ∀ b o, fr b = some o → b ∉ [g] ∧ w.heap[b]? = some o := fun b o hc => by
   simp only [fr] at hc
   split at hc
   ·cases hc
   ·rename_i hm'; exact ⟨hm', hc⟩
  have hlenT : ∀ (vs : List V) (cs : List Value), repT w [none, some (g, [])] [.gone, .gone] vs cs → cs.length = vs.length := by
   intro vs
   induction vs with
   | nil => intro cs H; cases H; rfl
   | cons v vs ih => intro cs H; obtain ⟨c, cs', rfl, _, h2⟩ := H; simp [ih _ h2]
  have hl := hlenT As args hargs
  have hA' := Nat.le_of_ble_eq_true hA
  have hcc1 : cc.oneCell' = true := repD_one (.lst code) [cc] hcode cc (by simp)
  have hargs2 : repT w [none, none, some (g, []), none] [.gone, .gho fr w.heap.size g 4 t, .box (.d (srcR cc pl sd)), .keep [(0, .d (.lst code))] (fun _ => cc)] (.pB 2 [] 0 :: As) (.pointer (some ⟨g, 0, none⟩) :: args) := by
   refine ⟨_, args, rfl, rep1_of_rep rfl (rep_pB.2 ⟨g, [], rfl, rfl⟩), dx_repT (by simp [MM.O, mO]) As args hrp hargs⟩
  have R : Rep { w with heap := #[] } [] fn.ntmps [none, none, some (g, []), none] (argE 0 (.pB 2 [] 0 :: As)) [.gone, .gho fr w.heap.size g 4 t, .box (.d (srcR cc pl sd)), .keep [(0, .d (.lst code))] (fun _ => cc)]
    { tmps := (.pointer (some ⟨g, 0, none⟩) :: args).toArray ++ Array.replicate (fn.ntmps - (Value.pointer (some ⟨g, 0, none⟩) :: args).toArray.size) Go.undef, defers := [] } w := {
   ext := ⟨rfl, rfl, rfl, Nat.zero_le _, fun k hk => by simp at hk⟩
   inv := ⟨rfl, fun b k m hk hm => by
     match b, hk, hm with
     | 0, hk, hm => simp at hk; subst hk; trivial
     | 1, hk, hm =>
      simp at hk hm
      subst hk
      exact ⟨fun b o hc => by rw [hO]; exact hfr b o hc, Nat.le_refl _, [], rfl, .inr ⟨_, hg, rfl⟩⟩
     | 2, hk, hm =>
      simp at hk hm
      subst hk
      subst hm
      exact ⟨rfl, _, t, hg, srcR_rep.2 ⟨rfl, hcc1, stOK_in hst⟩⟩
     | 3, hk, hm =>
      simp at hk hm
      subst hk
      intro k
      cases k with
      | zero =>
       refine rep_of_rep1 ?_
       show repD (MM.O [none, none, some (g, []), none]) w (.lst code) [cc]
       rw [hO]; exact hcode
      | succ k => trivial
     | b + 4, hk, hm => simp at hk, by rw [hO]; simp, fun _ _ _ _ _ _ g' _ => Nat.zero_le _, by
     rw [hO]
     intro x hx
     have : x = g := by simpa using hx
     subst this
     exact hglt⟩
   env := fun k => by
    rw [argE_get, if_pos (Nat.zero_le _), Nat.sub_zero]
    split
    ·rename_i v hv
     obtain ⟨cc', q1, q2⟩ := repT_get _ _ k v hargs2 hv
     have hk : k < (Value.pointer (some ⟨g, 0, none⟩) :: args).length := (List.getElem?_eq_some_iff.1 q1).1
     have : ((.pointer (some ⟨g, 0, none⟩) :: args).toArray ++ Array.replicate (fn.ntmps - (Value.pointer (some ⟨g, 0, none⟩) :: args).toArray.size) Go.undef).getD k Go.undef = cc' := by
      rw [Array.getD_eq_getD_getElem?, Array.getElem?_append_left (by simpa using hk)]
      simp only [List.getElem?_toArray, q1, Option.getD_some]
     dsimp only
     rw [this]
     exact rep_of_rep1 q2
    ·trivial
   sz := by simp [hl]; omega
   df := rfl
   fr := rfl
   fh := rfl }
  have hwf : wfVs As := repT_wf _ _ hargs
  refine calls_of_wp hf hb (wp_mono (code_sound hT hm cd _ _ _ _ _ _ hN (H fr w.heap.size g t cc pl sd hwf hst hpl) R) fun x a' w' hx => ?_)
  have fin : ∀ (e : Env) (h : List Blk) (M : MM), retV tt fn.results.toList e h (fun va => ∃ v bs, Q v bs ∧ RetOK h va v bs ∧ ∃ pl' sd' r, pl ≤ pl' ∧ pl' ≤ pl + c ∧ stOK pl' sd' ∧ h = .gone :: .gho fr w.heap.size g 4 t :: .box (.d (srcR cc pl' sd')) :: r) → Rep { w with heap := #[] } [] fn.ntmps M e h a' w' →
    a'.defers = [] ∧ ∃ cv, (results fn a'.tmps).run P w' = .ok cv w' ∧ ∃ v bs cv' M' pl' sd', Q v bs ∧ pl ≤ pl' ∧ pl' ≤ pl + c ∧ stOK pl' sd' ∧ Ending.returned cv = .returned cv' ∧ MInv 0 w' (none :: M') (.gone :: bs) ∧ rep w' (none :: M') (.gone :: bs) v cv' ∧ (∀ x ∈ MM.O M', w.heap.size ≤ x) ∧ w'.heap[g]? = some (.cells #[cc, .int .i64 pl', .int .u64 sd'] t (0, 0)) ∧ Kept w w' [g] [g] := by
   intro e h M hr R'
   have post : ∀ {va : V} {cv : Value}, rep w' M h va cv → (∃ v bs, Q v bs ∧ RetOK h va v bs ∧ ∃ pl' sd' r, pl ≤ pl' ∧ pl' ≤ pl + c ∧ stOK pl' sd' ∧ h = .gone :: .gho fr w.heap.size g 4 t :: .box (.d (srcR cc pl' sd')) :: r) → ∃ v bs cv' M' pl' sd', Q v bs ∧ pl ≤ pl' ∧ pl' ≤ pl + c ∧ stOK pl' sd' ∧ Ending.returned cv = .returned cv' ∧ MInv 0 w' (none :: M') (.gone :: bs) ∧ rep w' (none :: M') (.gone :: bs) v cv' ∧ (∀ x ∈ MM.O M', w.heap.size ≤ x) ∧ w'.heap[g]? = some (.cells #[cc, .int .i64 pl', .int .u64 sd'] t (0, 0)) ∧ Kept w w' [g] [g] := by
    rintro va cv hva ⟨v, bs, hq, hret, pl', sd', r, p1, p2, p3, rfl⟩
    obtain ⟨m1, hm1⟩ := at_lt (xs := M) (k := 1) (by rw [R'.inv.len]; simp)
    obtain ⟨q1, q2, F', q3, q45⟩ : (∀ b o, fr b = some o → b ∉ M.O ∧ w'.heap[b]? = some o) ∧ w.heap.size ≤ w'.heap.size ∧ ∃ F', M[2]? = some (some (g, F')) ∧ (4 = 0 ∨ ∃ arr', w'.heap[g]? = some (.cells arr' t (0, 0)) ∧ arr'.size + 1 = 4) := R'.inv.blk 1 _ _ rfl hm1
    obtain ⟨arr', q4, q5⟩ : ∃ arr', w'.heap[g]? = some (.cells arr' t (0, 0)) ∧ arr'.size + 1 = 4 := by
     rcases q45 with q | q
     ·cases q
     ·exact q
    obtain ⟨rfl, arr2, t2, z1, z2⟩ : F' = [] ∧ ∃ arr t, w'.heap[g]? = some (.cells arr t (0, 0)) ∧ repD M.O w' (srcR cc pl' sd') arr.toList := R'.inv.blk 2 _ _ rfl q3
    rw [q4] at z1
    cases z1
    obtain ⟨z3, _⟩ := srcR_rep.1 z2
    obtain rfl : arr' = #[cc, .int .i64 pl', .int .u64 sd'] := Array.toList_inj.1 z3
    have back : ∀ x, x < w.heap.size → x ∉ [g] → x ∉ M.O ∧ w'.heap[x]? = w.heap[x]? := fun x hx hxm => by
     have e1 : fr x = w.heap[x]? := by simp only [fr]; rw [if_neg hxm]
     have e2 : w.heap[x]? = some w.heap[x] := Array.getElem?_eq_getElem hx
     obtain ⟨u1, u2⟩ := q1 x _ (e1.trans e2)
     exact ⟨u1, by rw [u2, e2]⟩
    obtain ⟨M', y1, y2, y3⟩ := ret_sound3 R' hva hret
    refine ⟨v, bs, cv, M', pl', sd', hq, p1, p2, p3, rfl, y1, y2, fun x hx => ?_, q4, ⟨R'.ext.os, R'.ext.tape, R'.ext.output, q2, fun x hx hxm => (back x hx hxm).2, by simp, fun x hx => .inl hx, fun x hx => R'.inv.hi x (mem_O q3 hx)⟩⟩
    obtain ⟨b, m, n, xs, dp, hbm, hxm, hbb⟩ := y3 x hx
    refine Nat.le_of_not_lt fun hlt => ?_
    refine (back x hlt (fun hxg => ?_)).1 (mem_O hbm hxm)
    have hb2 : b = 2 := by
     have hxg' : x ∈ mO (some (g, [])) := by simpa [mO] using hxg
     exact O_block_inj R'.inv q3 hbm hxg' hxm
    subst hb2
    cases hbb
   obtain ⟨vs, cvs, h1, h2, h3, h4⟩ := res_sound hT R' _ _ hr
   refine ⟨R'.df, _, run_results h4, ?_⟩
   match vs, cvs, h2 with
   | [va], [cv], _ =>
    obtain ⟨c', k1, k2⟩ := h3 0 va rfl
    cases k1
    exact post k2 h1
   | [], [], _ => exact post (va := .tup []) (cv := .tuple #[]) ⟨[], rfl, rfl⟩ h1
   | va :: vb :: vs, ca :: cb :: cvs, h2 =>
    dsimp only at h1
    cases hok : okTs (va :: vb :: vs) with
    | false => rw [hok] at h1; exact h1.elim
    | true =>
     rw [hok] at h1
     simp only [cond_true] at h1
     have hall : ∀ (vs : List V) (cs : List Value), vs.length = cs.length → okTs vs = true → (∀ (i : Nat) (v : V), vs[i]? = some v → ∃ c, cs[i]? = some c ∧ rep w' M h v c) → repT w' M h vs cs := by
      intro vs
      induction vs with
      | nil => intro cs hl _ _; cases cs with
       | nil => rfl
       | cons _ _ => simp at hl
      | cons v vs ih =>
       intro cs hl ho hg
       cases cs with
       | nil => simp at hl
       | cons c cs =>
        simp only [okTs, Bool.and_eq_true] at ho
        obtain ⟨c', k1, k2⟩ := hg 0 v rfl
        cases k1
        exact ⟨c, cs, rfl, rep1_of_rep ho.1 k2, ih cs (by simpa using hl) ho.2 fun i u hi => by simpa using hg (i + 1) u (by simpa using hi)⟩
     exact post (va := .tup (va :: vb :: vs)) (cv := .tuple (ca :: cb :: cvs).toArray) ⟨_, rfl, hall _ _ h2 hok h3⟩ h1
  cases x with
  | normal => obtain ⟨e, h, M, k1, k2⟩ := hx; exact fin e h M k1 k2
  | ret => obtain ⟨e, h, M, k1, k2⟩ := hx; exact fin e h M k1 k2
  | exit id => obtain ⟨e, h, M, k1, k2⟩ := hx; exact k1.elim
  | goto l => exact hx.elim
  | panic => exact hx.elim
  | outgrown => exact hx.elim
end Go.Proofs.YtpdeibhedafcfaaGreatDoor