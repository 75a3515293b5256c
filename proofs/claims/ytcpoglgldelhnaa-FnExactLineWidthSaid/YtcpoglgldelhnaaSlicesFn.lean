/- Functions of Go's package slices at the program's types: what each returns, for every list and every function value that meets its contract. -/
import Derived.Test.YtcpoglgldelhnaaLawFns
namespace Go.Proofs.Ytcpoglgldelhnaa
open Go.RowKit

/-- the first index from k on at which p holds, or -1 -/
def ixGo {α : Type} (p : α → Bool) : Nat → List α → Int
  | _, [] => -1
  | k, x :: t => if p x = true then (k : Int) else ixGo p (k + 1) t
theorem ixGo_ge_at {α : Type} (p : α → Bool) : ∀ (xs : List α) (k : Nat), decide (0 ≤ ixGo p k xs) = xs.any p
  | [], _ => rfl
  | x :: t, k => by
    rw [ixGo, List.any_cons]
    by_cases h : p x = true
    · rw [if_pos h, h]; simp
    · rw [if_neg h, ixGo_ge_at p t (k + 1), Bool.eq_false_iff.2 h]; rfl
theorem ixGo_ge {α : Type} (p : α → Bool) (xs : List α) : decide (0 ≤ ixGo p 0 xs) = xs.any p := ixGo_ge_at p xs 0
theorem ixGo_bd {α : Type} (p : α → Bool) : ∀ (xs : List α) (k : Nat), -1 ≤ ixGo p k xs ∧ ixGo p k xs < k + xs.length + 1
  | [], k => by simp [ixGo]; omega
  | x :: t, k => by
    rw [ixGo]
    have := ixGo_bd p t (k + 1)
    simp only [List.length_cons]
    split <;> omega
theorem alloc_at {w : World} {o : Obj} {n : Nat} (h : n = w.heap.size) : (w.alloc o).heap[n]? = some o := by subst h; exact heap_alloc_new w o
theorem max_if (a b : Int) : (if a < b then b else a) = max a b := by split <;> omega
theorem Sl.ints {w : World} {b : Nat} {arr : Array Value} {t : TypeId} {fr : Nat × Nat} {xs : List Int} (hb : w.heap[b]? = some (.cells arr t fr)) (ha : arr.toList = xs.map (Value.int .i64)) (hI : ∀ x ∈ xs, I64 x)
    (hl : xs.length ≤ maxLen) : Sl intC w (.slice (some ⟨b, 0, none⟩) xs.length xs.length) xs := by
  refine ⟨_, _, rfl, Nat.le_refl _, hl, (fun h => by cases h), fun i x hx => ⟨b, 0, [.int .i64 x], rfl, fun j v hj => ?_, rfl, hI x (List.mem_of_getElem? hx)⟩⟩
  have hj0 : j = 0 := by
    have := (List.getElem?_eq_some_iff.1 hj).1
    simp at this; omega
  subst hj0
  simp at hj
  subst hj
  have h1 : arr[i]? = some (.int .i64 x) := by rw [← Array.getElem?_toList, ha, List.getElem?_map, hx]; rfl
  simp [World.cell?, hb, intC, h1]
set_option maxHeartbeats 1000000 in
theorem IndexFunc_Int64_c (g : Nat) (capt : Array Value) (p : Int → Bool) (xs : List Int) (v : Value) (w : World) (h : Sl intC w v xs)
    (hcf : ∀ (args : Array Value) (w : World), (callFunc g args).run Try.prog w = .ok (.enter g args) w)
    (hp : Hid (∀ x wr, x ∈ xs → Ext w wr → Calls Try.prog g (#[.int .i64 x] ++ capt) wr fun e w' => e = .returned (.bool (p x)) ∧ Ext wr w')) :
    Calls Try.prog 63 #[v, .func (.func g) #[] capt] w fun e w' => e = .returned (.int .i64 (ixGo p 0 xs)) ∧ Ext w w' := by
  obtain ⟨a, cap, rfl, hl, hcap, _, hat⟩ := h
  have hlen : xs.length ≤ 9223372036854775807 := Nat.le_trans hl hcap
  clear hl hcap
  go_enter Try.func63, Try.ntmps63
  go_wp2
  go_loopw [8] (fun i wr => ∃ k : Nat, k ≤ xs.length ∧ i = .int .i64 k ∧ Hid (ixGo p 0 xs = ixGo p k (xs.drop k)) ∧ Ext w wr) (fun i _ => xs.length - (intOf i).toNat)
  case atStart => exact ⟨0, Nat.zero_le _, rfl, rfl, Ext.refl _⟩
  case round =>
    obtain ⟨k, hk, rfl, HG, hinv⟩ := hrel
    by_cases hlt : k < xs.length
    · (obtain ⟨x, hx_c⟩ := at_lt (k := k) hlt; obtain ⟨bc, oc, csc, e_c, hc_c, hr_c⟩ := hat k x hx_c; cases e_c; have hr0_c := hr_c; obtain ⟨rfl, ch⟩ := hr0_c; have c0 := (hc_c.keep hinv) 0 _ rfl; simp only [intC_n, Nat.add_zero, Nat.mul_one] at c0; have HXc := Lib.hid hx_c; have HDc := Lib.hid (drop_cons hx_c); clear hr_c; clear hx_c hc_c)
      clear hat
      go_wp2_with fail
      refine (hp.out x _ (List.mem_of_getElem? HXc.out) (by assumption)).mono ?_
      rintro e w1 ⟨rfl, hb1⟩
      go_wp2_with fail
      all_goals first
        | (go_roundw
           case rel => exact ⟨k + 1, by omega, by go_num, (by show ixGo p 0 xs = _; rw [HG.out, HDc.out, ixGo, if_neg (by simp_all)]), hinv.trans hb1⟩
           case measure => simp [intOf]; omega)
        | (go_ret; exact ⟨ret_int (by rw [HG.out, HDc.out, ixGo, if_pos (by assumption)]), hinv.trans hb1⟩)
    · clear hat
      go_wp2
      go_ret
      exact ⟨ret_int (by rw [HG.out, drop_nil (Nat.le_of_not_lt hlt)]; rfl), hinv⟩
theorem ContainsFunc_Int64_c (g : Nat) (capt : Array Value) (p : Int → Bool) (xs : List Int) (v : Value) (w : World) (h : Sl intC w v xs)
    (hcf : ∀ (args : Array Value) (w : World), (callFunc g args).run Try.prog w = .ok (.enter g args) w)
    (hp : Hid (∀ x wr, x ∈ xs → Ext w wr → Calls Try.prog g (#[.int .i64 x] ++ capt) wr fun e w' => e = .returned (.bool (p x)) ∧ Ext wr w')) :
    Calls Try.prog 56 #[v, .func (.func g) #[] capt] w fun e w' => e = .returned (.bool (xs.any p)) ∧ Ext w w' := by
  have HS := Lib.hid h
  have HC := Lib.hid hcf
  clear h hcf
  go_enter Try.func56, Try.ntmps56
  go_wp2_with fail
  refine (IndexFunc_Int64_c g capt p xs _ _ HS.out HC.out hp).mono ?_; rintro e w1 ⟨rfl, hb1⟩; obtain ⟨hc1, hf1⟩ := hb1.keeps
  go_wp2_with fail
  go_ret
  exact ⟨ret_bool (ixGo_ge p xs), by (repeat (first | with_reducible exact Ext.refl _ | with_reducible assumption | with_reducible refine Ext.alloc ?_ _ | with_reducible refine Ext.drew ?_ | with_reducible refine Ext.drewN ?_ _ | (with_reducible refine Ext.setCell ?_ (by first | omega | (dsimp only; omega)) _) | with_reducible refine Ext.trans ?_ (by assumption)))⟩
set_option maxHeartbeats 1000000 in
theorem IndexFunc_Slot_c (g : Nat) (capt : Array Value) (p : TSlot → Bool) (xs : List TSlot) (v : Value) (w : World) (h : Sl SlotC w v xs)
    (hcf : ∀ (args : Array Value) (w : World), (callFunc g args).run Try.prog w = .ok (.enter g args) w)
    (hp : Hid (∀ x cs wr, x ∈ xs → Ext w wr → SlotC.rep wr cs x → Calls Try.prog g (#[.agg cs.toArray] ++ capt) wr fun e w' => e = .returned (.bool (p x)) ∧ Ext wr w')) :
    Calls Try.prog 45 #[v, .func (.func g) #[] capt] w fun e w' => e = .returned (.int .i64 (ixGo p 0 xs)) ∧ Ext w w' := by
  obtain ⟨a, cap, rfl, hl, hcap, _, hat⟩ := h
  have hlen : xs.length ≤ 9223372036854775807 := Nat.le_trans hl hcap
  clear hl hcap
  go_enter Try.func45, Try.ntmps45
  go_wp2
  go_loopw [8] (fun i wr => ∃ k : Nat, k ≤ xs.length ∧ i = .int .i64 k ∧ Hid (ixGo p 0 xs = ixGo p k (xs.drop k)) ∧ Ext w wr) (fun i _ => xs.length - (intOf i).toNat)
  case atStart => exact ⟨0, Nat.zero_le _, rfl, rfl, Ext.refl _⟩
  case round =>
    obtain ⟨k, hk, rfl, HG, hinv⟩ := hrel
    by_cases hlt : k < xs.length
    · (obtain ⟨x, hx_c⟩ := at_lt (k := k) hlt; obtain ⟨bc, oc, csc, e_c, hc_c, hr_c⟩ := hat k x hx_c; cases e_c; have hr0_c := hr_c; obtain ⟨rfl, ch0, ch1, ch2, ch3, ch4, ch5⟩ := hr0_c; have c0 := (hc_c.keep hinv) 0 _ rfl; have c1 := (hc_c.keep hinv) 1 _ rfl; have c2 := (hc_c.keep hinv) 2 _ rfl; have c3 := (hc_c.keep hinv) 3 _ rfl; have c4 := (hc_c.keep hinv) 4 _ rfl; have c5 := (hc_c.keep hinv) 5 _ rfl; simp only [SlotC_n, Nat.add_zero, Nat.mul_one] at c0 c1 c2 c3 c4 c5; have HXc := Lib.hid hx_c; have HDc := Lib.hid (drop_cons hx_c); have HRc := Lib.hid (SlotC.keep _ _ _ _ hinv hr_c); clear hr_c; clear hx_c hc_c)
      clear hat
      go_wp2_with fail
      refine (hp.out x _ _ (List.mem_of_getElem? HXc.out) (by assumption) HRc.out).mono ?_
      rintro e w1 ⟨rfl, hb1⟩
      go_wp2_with fail
      all_goals first
        | (go_roundw
           case rel => exact ⟨k + 1, by omega, by go_num, (by show ixGo p 0 xs = _; rw [HG.out, HDc.out, ixGo, if_neg (by simp_all)]), hinv.trans hb1⟩
           case measure => simp [intOf]; omega)
        | (go_ret; exact ⟨ret_int (by rw [HG.out, HDc.out, ixGo, if_pos (by assumption)]), hinv.trans hb1⟩)
    · clear hat
      go_wp2
      go_ret
      exact ⟨ret_int (by rw [HG.out, drop_nil (Nat.le_of_not_lt hlt)]; rfl), hinv⟩
theorem ContainsFunc_Slot_c (g : Nat) (capt : Array Value) (p : TSlot → Bool) (xs : List TSlot) (v : Value) (w : World) (h : Sl SlotC w v xs)
    (hcf : ∀ (args : Array Value) (w : World), (callFunc g args).run Try.prog w = .ok (.enter g args) w)
    (hp : Hid (∀ x cs wr, x ∈ xs → Ext w wr → SlotC.rep wr cs x → Calls Try.prog g (#[.agg cs.toArray] ++ capt) wr fun e w' => e = .returned (.bool (p x)) ∧ Ext wr w')) :
    Calls Try.prog 54 #[v, .func (.func g) #[] capt] w fun e w' => e = .returned (.bool (xs.any p)) ∧ Ext w w' := by
  have HS := Lib.hid h
  have HC := Lib.hid hcf
  clear h hcf
  go_enter Try.func54, Try.ntmps54
  go_wp2_with fail
  refine (IndexFunc_Slot_c g capt p xs _ _ HS.out HC.out hp).mono ?_; rintro e w1 ⟨rfl, hb1⟩; obtain ⟨hc1, hf1⟩ := hb1.keeps
  go_wp2_with fail
  go_ret
  exact ⟨ret_bool (ixGo_ge p xs), by (repeat (first | with_reducible exact Ext.refl _ | with_reducible assumption | with_reducible refine Ext.alloc ?_ _ | with_reducible refine Ext.drew ?_ | with_reducible refine Ext.drewN ?_ _ | (with_reducible refine Ext.setCell ?_ (by first | omega | (dsimp only; omega)) _) | with_reducible refine Ext.trans ?_ (by assumption)))⟩

end Go.Proofs.Ytcpoglgldelhnaa
