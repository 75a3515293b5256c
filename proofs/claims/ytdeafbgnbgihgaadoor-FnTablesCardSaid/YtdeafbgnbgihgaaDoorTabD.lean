/- merged: several parts in one text. Leans on no more than they do. -/
import Derived.Test.YtdeafbgnbgihgaaDoorLVBase
import Derived.Test.YtdeafbgnbgihgaaDoorShelf
import Derived.Test.YtdeafbgnbgihgaaDoorTT
import Derived.Lib.MakeNoZero
import Derived.Deep.RegionLaw
import Derived.Laws.IdiomCopy
import Derived.Test.YtdeafbgnbgihgaaDoorEaV
import Derived.Lib.AppendZerosOnto
import Derived.Lib.JoinLaws
import Derived.Shelf.Spec.SlicesInsertGrow
import Derived.Laws.Strings
set_option linter.unusedSimpArgs false
set_option linter.unusedVariables false
namespace Go.Proofs.YtdeafbgnbgihgaaDoor
open Go.RowKit Go.Shelf
set_option maxHeartbeats 1000000 in
set_option maxRecDepth 100000 in
theorem cc_used (b : Nat) (w : World) (h0 : w.cell? ⟨b, 0, none⟩ = some (.pointer (some ⟨b, 0, none⟩))) :
    Calls Tryd.prog 39 #[.pointer (some ⟨b, 0, none⟩)] w fun e w' => e = .returned (.tuple #[]) ∧ w' = w := by
  obtain ⟨j, hj, hjs⟩ := Option.map_eq_some_iff.1 (show (Tryd.prog.info? 46).map (·.size) = some 2 by kernel_rfl)
  go_enter Tryd.func39, Tryd.ntmps39
  go_wp2
  rw [Lib.run_neq_ptr_same w _ Tryd.underlying44 hj]
  go_wp2
  go_end0
  exact ⟨rfl, rfl⟩
set_option maxHeartbeats 1000000 in
set_option maxRecDepth 100000 in
theorem cc_fresh (b : Nat) (w : World) (h0 : w.cell? ⟨b, 0, none⟩ = some (.pointer none)) (hsh : w.shape? b = some (46, 2)) (hfz : w.frozen? ⟨b, 0, none⟩ = false) :
    Calls Tryd.prog 39 #[.pointer (some ⟨b, 0, none⟩)] w fun e w' => e = .returned (.tuple #[]) ∧ w' = w.setCell ⟨b, 0, none⟩ (.pointer (some ⟨b, 0, none⟩)) := by
  obtain ⟨j, hj, hjs⟩ := Option.map_eq_some_iff.1 (show (Tryd.prog.info? 46).map (·.size) = some 2 by kernel_rfl)
  go_enter Tryd.func39, Tryd.ntmps39
  go_wp2
  rw [Lib.run_to_unsafe w ⟨b, 0, none⟩ Tryd.underlying44 Tryd.underlying97 hj (by rw [hjs]; decide) hsh (Nat.zero_lt_succ 1)]
  simp only [Result.andThen]
  rw [Oper.upon_value]
  go_wp2
  rw [run_callFunc_extern Tryd.func61 (by kernel_rfl) (by kernel_rfl) (by kernel_rfl) (e := Extern.AbiNoEscape.same) (by kernel_rfl)]
  rw [Lib.run_noEscape]
  simp only [Result.andThen]
  rw [Oper.upon_value]
  go_wp2
  rw [Lib.run_from_unsafe w ⟨b, 0, none⟩ Tryd.underlying97 Tryd.underlying44 hj hsh (by kernel_rfl)]
  simp only [Result.andThen]
  rw [Oper.upon_value]
  go_wp2
  go_end0
  exact ⟨rfl, rfl⟩
theorem cc_p (b : Nat) (F : List Nat) (bs : List UInt8) (w : World) (h : bldR w b F 46 5 bs) (hb : b ∉ F) :
    Calls Tryd.prog 39 #[.pointer (some ⟨b, 0, none⟩)] w fun e w' => e = .returned (.tuple #[]) ∧ (∃ v, w'.heap[b]? = some (.cells #[.pointer (some ⟨b, 0, none⟩), v] 46 (0, 0)) ∧ rowR w' v F 5 bs) ∧
      OnlyB w w' b := by
  obtain ⟨p, v, h1, h2, h3⟩ := h
  rcases h2 with rfl | rfl
  · refine (cc_fresh b w (by rw [Lib.cell_of_heap h1]; rfl) (by simp [World.shape?, h1]) (Lib.frozen_of_heap h1 0)).mono ?_
    rintro e w' ⟨rfl, rfl⟩
    exact ⟨rfl, ⟨v, by rw [setCell_heap0 h1]; rfl, rowR_keep h3 fun x hx => setCell_other0 (by rintro rfl; exact hb hx) 0 _⟩, ⟨rfl, rfl, rfl, setCell_size0 0 _, fun x hx => setCell_other0 hx 0 _⟩⟩
  · refine (cc_used b w (by rw [Lib.cell_of_heap h1]; rfl)).mono ?_
    rintro e w' ⟨rfl, rfl⟩
    exact ⟨rfl, ⟨v, h1, h3⟩, ⟨rfl, rfl, rfl, rfl, fun _ _ => rfl⟩⟩
set_option maxHeartbeats 2000000 in
set_option maxRecDepth 100000 in
theorem wr_p (b : Nat) (F : List Nat) (bs : List UInt8) (s : ByteArray) (w : World) (h : bldR w b F 46 5 bs) (hb : b ∉ F) (hlen : bs.length + s.size ≤ 140737488355328) :
    Calls Tryd.prog 18 #[.pointer (some ⟨b, 0, none⟩), .string s] w fun e w' => e = .returned (.tuple #[.int .i64 s.size, .nilIface]) ∧ ∃ F', bldR w' b F' 46 5 (bs ++ s.data.toList) ∧ Kept w w' (b :: F) (b :: F') := by
  obtain ⟨i0, hi, hz0, hz1, hz2⟩ := info_parts (show (Tryd.prog.info? 5).map (fun i => (i.zero, i.size, i.bytes)) = some (some (.int .u8 0), 1, 1) by kernel_rfl)
  have hbw : b < w.heap.size := by obtain ⟨p, v, h1, _⟩ := h; exact lt_of_heap h1
  go_enter Tryd.func18, Tryd.ntmps18
  go_wp2_with (go_at_call 39; refine (cc_p b F bs _ h hb).mono ?_)
  rintro e w1 ⟨rfl, ⟨v, hbk, hrow⟩, ho⟩
  have c0 : w1.cell? ⟨b, 0, none⟩ = some (.pointer (some ⟨b, 0, none⟩)) := by rw [Lib.cell_of_heap hbk]; rfl
  have c1 : w1.cell? ⟨b, 1, none⟩ = some v := by rw [Lib.cell_of_heap hbk]; rfl
  go_wp2_with (at_builtin; refine wpList_app_row rfl _ _ 22 9 rfl 5 i0 Tryd.underlying22 Tryd.underlying9 hi hz0 hz1 hz2 _ F bs rfl hrow s rfl hlen ?_)
  intro v' w2 F' hrow' hgrow hF'
  have hnb : some b ≠ v.ownBlock := fun q => hb ((rowR_block hrow b).1 q.symm)
  have hb2 : w2.heap[b]? = some (.cells #[.pointer (some ⟨b, 0, none⟩), v] 46 (0, 0)) := by
    rw [hgrow.block b (lt_of_heap hbk) hnb]
    exact hbk
  have d0 : w2.cell? ⟨b, 0, none⟩ = some (.pointer (some ⟨b, 0, none⟩)) := by rw [Lib.cell_of_heap hb2]; rfl
  have d1 : w2.cell? ⟨b, 1, none⟩ = some v := by rw [Lib.cell_of_heap hb2]; rfl
  have f1 : w2.frozen? ⟨b, 1, none⟩ = false := Lib.frozen_of_heap hb2 1
  obtain ⟨ao, n', cap, rfl⟩ : ∃ ao n' cap, v' = .slice ao n' cap := by
    rcases hrow' with ⟨hv, _⟩ | ⟨g, cap, cur, fz, hv, _⟩
    · exact ⟨_, _, _, hv⟩
    · exact ⟨_, _, _, hv⟩
  have hbF' : b ∉ F' := fun hx => by
    rcases hF' b hx with q | q
    · exact hb q
    · have := lt_of_heap hbk; omega
  go_wp2
  go_ret2
  refine ⟨rfl, F', ⟨_, _, by rw [setCell_heap0 hb2]; rfl, .inr rfl, rowR_keep hrow' fun x hx => setCell_other0 (by rintro rfl; exact hbF' hx) 1 _⟩, ?_⟩
  obtain ⟨l1, l2⟩ := rowR_lt hrow'
  obtain ⟨o1, o2, o3, o4, o5⟩ := ho
  refine ⟨hgrow.os.trans o1, hgrow.tape.trans o2, hgrow.output.trans o3, by rw [setCell_size0]; have := hgrow.size; omega, fun x hx hxL => ?_, by simp [hbF', l2], fun x hx => ?_, fun x hx => ?_⟩
  · have hxb : x ≠ b := fun q => hxL (by simp [q])
    rw [setCell_other0 hxb, hgrow.block x (by omega) (fun q => hxL (by simp [(rowR_block hrow x).1 q.symm])), o5 x hxb]
  · rcases List.mem_cons.1 hx with rfl | hx
    · exact .inl (by simp)
    · rcases hF' x hx with q | q
      · exact .inl (by simp [q])
      · exact .inr (by omega)
  · rw [setCell_size0]
    rcases List.mem_cons.1 hx with rfl | hx
    · exact lt_of_heap hb2
    · exact l1 x hx
theorem bc_ws {fn : Func} (h1 : Tryd.prog.funcs[18]? = some fn) (h2 : (fn.name == "runtime.NumGoroutine") = false) (h3 : fn.body.isNone = false) (bs : List UInt8) (s : ByteArray) (hlen : bs.length + s.size ≤ 140737488355328) :
    BC Tryd.prog 18 46 5 bs [.d (.str s)] (.tup [.d (.int .i64 (s.size : Nat)), .top]) (bs ++ s.data.toList) where
  fn := ⟨fn, h1, h2, h3⟩
  run w g F args hargs hb hg := by
    obtain ⟨c, cs, rfl, r1, rfl⟩ := hargs
    obtain ⟨rfl, hs⟩ := rep_str.1 (rep_of_rep1 r1)
    refine (wr_p g F bs s w hb hg hlen).mono ?_
    rintro en w' ⟨rfl, F', k1, k2⟩
    refine ⟨_, F', rfl, fun M h => ⟨_, rfl, ?_⟩, k1, k2⟩
    exact ⟨_, _, rfl, rep1_of_rep rfl (rep_int.2 ⟨rfl, nat_inR hs⟩), _, _, rfl, nilIface_top, rfl⟩
theorem ws_b (bs : List UInt8) (s : ByteArray) (hlen : bs.length + s.size ≤ 140737488355328) : BC Tryd.prog 18 46 5 bs [.d (.str s)] (.tup [.d (.int .i64 (s.size : Nat)), .top]) (bs ++ s.data.toList) :=
  bc_ws Tryd.func18 rfl rfl bs s hlen
theorem str_b (bs : List UInt8) : BC Tryd.prog 23 46 5 bs [] (.d (.str ⟨bs.toArray⟩)) bs :=
  bc_str Tryd.lays169 Tryd.Builder_Extra_169 Tryd.func23 rfl rfl bs
open Go.RowKit Go.Shelf Go.Lib
theorem grow_fin (b : Nat) (a : Option Addr) (c : Nat) (T E : TypeId) (cs : Array Value) (v : Value) (w : World) (hbk : w.heap[b]? = some (.cells #[.pointer (some ⟨b, 0, none⟩), .slice a 0 c] T (0, 0))) :
    ((w.setCell ⟨b, 1, none⟩ v).alloc (.cells cs E)).drew.drew.drew.heap[b]? = some (.cells #[.pointer (some ⟨b, 0, none⟩), v] T (0, 0)) ∧
      ((w.setCell ⟨b, 1, none⟩ v).alloc (.cells cs E)).drew.drew.drew.heap[w.heap.size]? = some (.cells cs E (0, 0)) ∧ Kept w ((w.setCell ⟨b, 1, none⟩ v).alloc (.cells cs E)).drew.drew.drew [b] [b, w.heap.size] := by
  have hlt := lt_of_heap hbk
  have hsz : (w.setCell ⟨b, 1, none⟩ v).heap.size = w.heap.size := setCell_size0 1 v
  have hold : ∀ x, x < w.heap.size → ((w.setCell ⟨b, 1, none⟩ v).alloc (.cells cs E)).heap[x]? = (w.setCell ⟨b, 1, none⟩ v).heap[x]? := fun x hx => Lib.alloc_old _ _ x (by rw [hsz]; exact hx)
  have hns : ((w.setCell ⟨b, 1, none⟩ v).alloc (.cells cs E)).heap.size = w.heap.size + 1 := by
    simp [World.alloc, hsz]
  refine ⟨?_, ?_, rfl, rfl, rfl, ?_, fun x hx hm => ?_, ?_, fun x hx => ?_, fun x hx => ?_⟩
  · show ((w.setCell ⟨b, 1, none⟩ v).alloc (.cells cs E)).heap[b]? = _
    rw [hold b hlt, setCell_heap0 hbk 1 v]; rfl
  · show ((w.setCell ⟨b, 1, none⟩ v).alloc (.cells cs E)).heap[w.heap.size]? = _
    have := heap_alloc_new (w.setCell ⟨b, 1, none⟩ v) (.cells cs E)
    rwa [hsz] at this
  · show _ ≤ ((w.setCell ⟨b, 1, none⟩ v).alloc (.cells cs E)).heap.size
    omega
  · show ((w.setCell ⟨b, 1, none⟩ v).alloc (.cells cs E)).heap[x]? = _
    rw [hold x hx, setCell_other0 (by simpa using hm)]
  · simp; omega
  · simp at hx
    rcases hx with rfl | rfl
    · exact .inl (by simp)
    · exact .inr (Nat.le_refl _)
  · show x < ((w.setCell ⟨b, 1, none⟩ v).alloc (.cells cs E)).heap.size
    simp at hx
    rcases hx with rfl | rfl <;> omega
set_option maxHeartbeats 2000000 in
set_option maxRecDepth 100000 in
theorem grow_p (b n c : Nat) (a : Option Addr) (w : World) (hbk : w.heap[b]? = some (.cells #[.pointer (some ⟨b, 0, none⟩), .slice a 0 c] 46 (0, 0))) (hc : c ≤ 1000000) (hn : n ≤ 1000000) :
    Calls Tryd.prog 65 #[.pointer (some ⟨b, 0, none⟩), .int .i64 n] w fun e w' => e = .returned (.tuple #[]) ∧ ∃ cs : Array Value, n ≤ cs.size ∧ cs.size ≤ maxLen ∧ 2 * c + n ≤ cs.size ∧
      w'.heap[b]? = some (.cells #[.pointer (some ⟨b, 0, none⟩), .slice (some ⟨w.heap.size, 0, none⟩) 0 cs.size] 46 (0, 0)) ∧ w'.heap[w.heap.size]? = some (.cells cs 5 (0, 0)) ∧ Kept w w' [b] [b, w.heap.size] := by
  obtain ⟨cs, hrun, hle, hmax⟩ := Lib.run_makeNoZero (P := Tryd.prog) w.drew #[3] 22 5 Tryd.underlying22 (2 * c + n) (by omega)
  have hw1 : IntKind.i64.wrap (2 * (c : Int)) = 2 * (c : Int) := by rw [IntKind.wrap_i64]; omega
  have hw2 : IntKind.i64.wrap (2 * (c : Int) + (n : Int)) = ((2 * c + n : Nat) : Int) := by rw [IntKind.wrap_i64]; omega
  have hcall : (callFunc 77 #[.int .i64 (IntKind.i64.wrap (IntKind.i64.wrap (2 * (c : Int)) + (n : Int)))]).run Tryd.prog w.drew = .ok (.value (.slice (some ⟨w.drew.heap.size, 0, none⟩) (2 * c + n) cs.size)) (w.drew.drew.drew.alloc (.cells cs 5)) := by
    rw [hw1, hw2, run_callFunc_extern Tryd.func77 (by kernel_rfl) (by kernel_rfl) (by kernel_rfl) (e := Extern.BytealgMakeNoZero.makeNoZero #[3] #[22]) (by kernel_rfl), hrun]
    rfl
  have hlt := lt_of_heap hbk
  have c1 : w.drew.cell? ⟨b, 1, none⟩ = some (.slice a 0 c) := by
    have : w.drew.heap[b]? = _ := hbk
    rw [Lib.cell_of_heap this]; rfl
  have hal : (w.alloc (.cells cs 5)).heap[b]? = _ := (Lib.alloc_old w _ b hlt).trans hbk
  have c2 : (w.alloc (.cells cs 5)).cell? ⟨b, 1, none⟩ = some (.slice a 0 c) := by
    rw [Lib.cell_of_heap hal]; rfl
  have f2 : (w.alloc (.cells cs 5)).frozen? ⟨b, 1, none⟩ = false := Lib.frozen_of_heap hal 1
  have hcopy : ∀ W : World, (Builtin.copy_ #[22, 22] 3 #[.slice (some ⟨w.heap.size, 0, none⟩) 0 cs.size, .slice a 0 c]).run Tryd.prog W = .ok (goInt 0) W :=
    fun W => run_copy_none W 22 22 3 5 _ _ 0 cs.size 0 c Tryd.underlying22 (by kernel_rfl) rfl
  have mixed : Tryd.prog.follows .mixedOrders = true := by kernel_rfl
  clear hw1 hw2
  have hmax2 : cs.size ≤ maxLen := hmax (by unfold maxLen; omega)
  have hfin := grow_fin b a c _ 5 cs (.slice (some ⟨w.heap.size, 0, none⟩) 0 cs.size) w hbk
  go_enter Tryd.func65, Tryd.ntmps65
  go_wp2
  go_region_o
  all_goals go_wp2
  all_goals go_end0
  all_goals exact ⟨rfl, cs, by omega, hmax2, hle, hfin⟩
open Go.RowKit Go.Shelf Go.Lib
set_option maxHeartbeats 2000000 in
set_option maxRecDepth 100000 in
theorem gr_p (b n : Nat) (F : List Nat) (w : World) (h : bldR w b F 46 5 []) (hb : b ∉ F) (h1 : 1 ≤ n) (hn : n ≤ 1000000) :
    Calls Tryd.prog 42 #[.pointer (some ⟨b, 0, none⟩), .int .i64 n] w fun e w' => e = .returned (.tuple #[]) ∧ ∃ F', bldR w' b F' 46 5 [] ∧ Kept w w' (b :: F) (b :: F') := by
  have hbw : b < w.heap.size := by obtain ⟨p, v, h1, _⟩ := h; exact lt_of_heap h1
  have mixed : Tryd.prog.follows .mixedOrders = true := by kernel_rfl
  go_enter Tryd.func42, Tryd.ntmps42
  go_wp2_with (go_at_call 39; refine (cc_p b F [] _ h hb).mono ?_)
  rintro e w1 ⟨rfl, ⟨v, hbk, hrow⟩, ho⟩
  obtain ⟨a, c, rfl, hcm⟩ : ∃ a c, v = .slice a 0 c ∧ c ≤ maxLen := by
    rcases hrow with ⟨hv, _⟩ | ⟨g, cap, cur, fz, hv, _, _, _, _, q, _⟩
    · exact ⟨_, _, hv, Nat.zero_le _⟩
    · exact ⟨_, _, hv, q⟩
  have hwc : wrap64 (c : Int) = (c : Int) := by
    unfold maxLen at hcm
    unfold wrap64; omega
  have c1 : w1.drew.cell? ⟨b, 1, none⟩ = some (.slice a 0 c) := by
    have : w1.drew.heap[b]? = some (.cells #[.pointer (some ⟨b, 0, none⟩), .slice a 0 c] _ (0, 0)) := hbk
    rw [Lib.cell_of_heap this]; rfl
  obtain ⟨o1, o2, o3, o4, o5⟩ := ho
  obtain ⟨l1, l2⟩ := rowR_lt hrow
  have hlt := lt_of_heap hbk
  have hno : ∃ F', bldR w1.drew b F' 46 5 [] ∧ Kept w w1.drew (b :: F) (b :: F') := by
    exact ⟨F, ⟨_, _, hbk, .inr rfl, hrow⟩, o1, o2, o3, Nat.le_of_eq o4.symm, fun x hx hm => o5 x (fun q => hm (by simp [q])), by simp [hb, l2], fun x hx => .inl hx, fun x hx => by
      rcases List.mem_cons.1 hx with rfl | hx
      · exact hlt
      · exact l1 x hx⟩
  have hyes : ∀ w2, (∃ cs : Array Value, n ≤ cs.size ∧ cs.size ≤ maxLen ∧ 2 * c + n ≤ cs.size ∧ w2.heap[b]? = some (.cells #[.pointer (some ⟨b, 0, none⟩), .slice (some ⟨w1.drew.heap.size, 0, none⟩) 0 cs.size] 46 (0, 0)) ∧
      w2.heap[w1.drew.heap.size]? = some (.cells cs 5 (0, 0)) ∧ Kept w1.drew w2 [b] [b, w1.drew.heap.size]) → ∃ F', bldR w2 b F' 46 5 [] ∧ Kept w w2 (b :: F) (b :: F') := by
    rintro w2 ⟨cs, k1, k2, -, k3, k4, k5⟩
    refine ⟨[w1.drew.heap.size], ⟨_, _, k3, .inr rfl, .inr ⟨_, cs.size, cs, (0, 0), rfl, rfl, k4, Nat.zero_le _, Nat.zero_le _, k2, rfl, rfl, by omega⟩⟩, k5.os.trans o1, k5.tape.trans o2, k5.output.trans o3, Nat.le_trans (Nat.le_of_eq o4.symm) k5.size, fun x hx hm => ?_, k5.nd, fun x hx => ?_, k5.hi⟩
    · have hxb : x ≠ b := fun q => hm (by simp [q])
      rw [k5.ch x (by show x < w1.heap.size; omega) (by simpa using hxb)]
      exact o5 x hxb
    · rcases k5.sub x hx with q | q
      · simp at q; exact .inl (by simp [q])
      · exact .inr (by rw [← o4]; exact q)
  clear o1 o2 o3 o4 o5 hrow l1 l2
  go_wp2
  go_region_o
  all_goals go_wp2_with (go_at_call 65; refine (grow_p b n c a w1.drew hbk (by omega) hn).mono ?_; rintro e w2 ⟨rfl, hcs⟩)
  all_goals first | exact ⟨rfl, hno⟩ | exact ⟨rfl, hyes _ hcs⟩ | (go_end0; exact ⟨rfl, hno⟩) | (go_end0; exact ⟨rfl, hyes _ hcs⟩)
theorem gr_b (n : Nat) (h1 : 1 ≤ n) (hn : n ≤ 1000000) : BC Tryd.prog 42 46 5 [] [.d (.int .i64 (n : Nat))] (.tup []) [] where
  fn := ⟨_, Tryd.func42, rfl, rfl⟩
  run w g F args hargs hb hg := by
    obtain ⟨c, cs, rfl, r1, rfl⟩ := hargs
    obtain ⟨rfl, hs⟩ := rep_int.1 (rep_of_rep1 r1)
    refine (gr_p g n F w hb hg h1 hn).mono ?_
    rintro en w' ⟨rfl, F', k1, k2⟩
    exact ⟨_, F', rfl, fun M h => ⟨_, rfl, rfl⟩, k1, k2⟩
set_option maxHeartbeats 2000000 in
set_option maxRecDepth 100000 in
theorem ln_p (b : Nat) (F : List Nat) (bs : List UInt8) (w : World) (h : bldR w b F 46 5 bs) :
    Calls Tryd.prog 43 #[.pointer (some ⟨b, 0, none⟩)] w fun e w' => e = .returned (.int .i64 bs.length) ∧ w' = w := by
  obtain ⟨p, v, hbk, hp, hrow⟩ := h
  obtain ⟨a, c, rfl⟩ : ∃ a c, v = .slice a bs.length c := by
    rcases hrow with ⟨hv, rfl, _⟩ | ⟨g, cap, cur, fz, hv, _⟩
    · exact ⟨_, _, hv⟩
    · exact ⟨_, _, hv⟩
  have c1 : w.cell? ⟨b, 1, none⟩ = some (.slice a bs.length c) := by rw [Lib.cell_of_heap hbk]; rfl
  clear hrow
  go_enter Tryd.func43, Tryd.ntmps43
  go_wp2
  go_ret
  exact ⟨rfl, rfl⟩
theorem ln_b (bs : List UInt8) (hl : bs.length ≤ maxLen) : BC Tryd.prog 43 46 5 bs [] (.d (.int .i64 (bs.length : Nat))) bs where
  fn := ⟨_, Tryd.func43, rfl, rfl⟩
  run w g F args hargs hb hg := by
    cases (show args = [] from hargs)
    have hb' := hb
    obtain ⟨p, v, hbk, hp, hrow⟩ := hb'
    obtain ⟨l1, l2⟩ := rowR_lt hrow
    refine (ln_p g F bs w hb).mono ?_
    rintro en w' ⟨rfl, rfl⟩
    exact ⟨_, F, rfl, fun M h => rep_int.2 ⟨rfl, nat_inR hl⟩, hb, rfl, rfl, rfl, Nat.le_refl _, fun _ _ _ => rfl, by simp [hg, l2], fun x hx => .inl hx, fun x hx => by
      rcases List.mem_cons.1 hx with rfl | hx
      · exact lt_of_heap hbk
      · exact l1 x hx⟩
theorem Mul64_c (n : Nat) (hn : n ≤ 3) : PC Tryd.prog 63 [.d (.int .u64 (1 : Nat)), .d (.int .u64 (n : Nat))] (.tup [.d (.int .u64 (0 : Nat)), .d (.int .u64 (n : Nat))]) [] := by
  have h : n = 0 ∨ n = 1 ∨ n = 2 ∨ n = 3 := by omega
  rcases h with rfl | rfl | rfl | rfl
  all_goals
    refine pc_intro ttOk (by kernel_rfl) Tryd.func63 rfl (by kernel_rfl) (by kernel_rfl) (by kernel_rfl) (fun hw => ?_)
    (conv => whnf)
    repeat' (first | (refine stg_ ?_) | (refine ArW.u64e ((0 : Nat) : Int) rfl (by omega) ?_; (conv => whnf)) | (refine ArW.u64e ((1 : Nat) : Int) rfl (by omega) ?_; (conv => whnf)) | (refine ArW.u64e ((2 : Nat) : Int) rfl (by omega) ?_; (conv => whnf)) | (refine ArW.u64e ((3 : Nat) : Int) rfl (by omega) ?_; (conv => whnf)) | (refine ShW.at (q := 4294967296) rfl (by omega) ?_; (conv => whnf)))
    (refine RetOK.t rfl ?_; (repeat' ((conv => whnf); (first | done | (refine ⟨_, _, rfl, ⟨rfl, ?_⟩, ?_⟩) | fail))); (all_goals (conv => whnf)))
    all_goals rfl
theorem Mul_c (n : Nat) (hn : n ≤ 3) : PC Tryd.prog 40 [.d (.int .u64 (1 : Nat)), .d (.int .u64 (n : Nat))] (.tup [.d (.int .u64 (0 : Nat)), .d (.int .u64 (n : Nat))]) [] := by
  have c1 := Mul64_c n hn
  refine pc_intro ttOk (by kernel_rfl) Tryd.func40 rfl (by kernel_rfl) (by kernel_rfl) (by kernel_rfl) (fun hw => ?_)
  (conv => whnf)
  (repeat' (first | (refine stg_ ?_) | (refine cla_ (c1) ?_) | (refine br_ (fun hbr => ?_) (fun hbr => ?_))))
  (refine RetOK.t rfl ?_; (repeat' ((conv => whnf); (first | done | (refine ⟨_, _, rfl, ⟨rfl, ?_⟩, ?_⟩) | fail))); (all_goals (conv => whnf)))
  all_goals rfl
def zB (n : Nat) : ByteArray := ⟨(List.replicate n (0 : UInt8)).toArray⟩
theorem zB_size (n : Nat) : (zB n).size = n := by simp [zB, ByteArray.size]
set_option maxHeartbeats 4000000 in
theorem Repeat_c (n : Nat) (hn : n ≤ 3) : PC Tryd.prog 22 [.d (.str ⟨#[0]⟩), .d (.int .i64 (n : Nat))] (.d (.str (zB n))) [] := by
  have c1 := Mul_c n hn
  obtain ⟨z, hz, hz1, hz2⟩ : ∃ z : ByteArray, z = ⟨#[0]⟩ ∧ z.size = 1 ∧ z[0]? = some 0 := ⟨_, rfl, rfl, rfl⟩
  rw [← hz]
  have c1 : PC Tryd.prog 40 [.d (.int .u64 (z.size : Nat)), .d (.int .u64 (n : Nat))] (.tup [.d (.int .u64 (0 : Nat)), .d (.int .u64 (n : Nat))]) [] := by rw [hz1]; exact c1
  have h : n = 0 ∨ n = 1 ∨ (2 ≤ n ∧ n ≤ 3) := by omega
  rcases h with rfl | rfl | hn2
  · refine pc_intro ttOk (by kernel_rfl) Tryd.func22 rfl (by kernel_rfl) (by kernel_rfl) (by kernel_rfl) (fun hw => ?_)
    (conv => whnf)
    (repeat' (first | (refine stg_ ?_) | (refine cla_ (c1) ?_) | (refine br_ (fun hbr => ?_) (fun hbr => ?_))))
    all_goals first | (exfalso; omega) | skip
    (refine RetOK.d rfl rfl ?_; conv => whnf)
    all_goals rfl
  · refine pc_intro ttOk (by kernel_rfl) Tryd.func22 rfl (by kernel_rfl) (by kernel_rfl) (by kernel_rfl) (fun hw => ?_)
    (conv => whnf)
    (repeat' (first | (refine stg_ ?_) | (refine cla_ (c1) ?_) | (refine br_ (fun hbr => ?_) (fun hbr => ?_))))
    all_goals first | (exfalso; omega) | skip
    (refine RetOK.d rfl rfl ?_; conv => whnf)
    all_goals (rw [hz]; rfl)
  · have g1 := gr_b n (by omega) (by omega)
    have g2 := ws_b [] z (by rw [hz1]; decide)
    have e1 : ([] : List UInt8) ++ z.data.toList = [0] := by rw [hz]; rfl
    rw [e1] at g2
    refine pc_intro ttOk (by kernel_rfl) Tryd.func22 rfl (by kernel_rfl) (by kernel_rfl) (by kernel_rfl) (fun hw => ?_)
    (conv => whnf)
    (repeat' (first | (refine stg_ ?_) | (refine cla_ (c1) ?_) | (refine clb_ (g1) ?_) | (refine clb_ (g2) ?_) | (refine br_ (fun hbr => ?_) (fun hbr => ?_))))
    all_goals first | (exfalso; omega) | skip
    refine LoopW.go (α := Nat) (fun k => [(0, .d (.str z)), (7, .d (.int .i64 n)), (8, .d (.int .i64 n)), (9, .pB 1 [] 0)]) (fun k => [.gone, .bld 46 5 (List.replicate k 0)]) (fun k => 1 ≤ k ∧ k ≤ n) (fun k => n - k) 1 covT_ ⟨by omega, by omega⟩ (fun k hk => ?_)
    have g3 := ln_b (List.replicate k 0) (by rw [List.length_replicate]; unfold maxLen; omega)
    rw [List.length_replicate] at g3
    have g4 := str_b (List.replicate k 0)
    (conv => whnf)
    have g5 := ws_b (List.replicate k 0) z (by rw [List.length_replicate, hz1]; omega)
    have e5 : List.replicate k 0 ++ z.data.toList = List.replicate (k + 1) (0 : UInt8) := by rw [List.replicate_succ', hz]
    rw [e5] at g5
    (repeat' (first | (refine stg_ ?_) | (refine clb_ (g3) ?_) | (refine clb_ (g4) ?_) | (refine clb_ (g5) ?_) | (refine br_ (fun hbr => ?_) (fun hbr => ?_))))
    · have hk2 : k = 1 ∨ k = 2 := by omega
      have hm : (min (min ((n : Int) - (k : Int)) (k : Int)) (n : Int)).toNat = 1 := by omega
      have hx : (⟨(List.replicate k (0 : UInt8)).toArray⟩ : ByteArray).extract 0 1 = z := by
        rw [hz]
        rcases hk2 with rfl | rfl <;> rfl
      rw [← hx] at g5
      rw [hm]
      refine SlW.at (by omega) (by rcases hk2 with rfl | rfl <;> decide) ?_
      (conv => whnf)
      (repeat' (first | (refine stg_ ?_) | (refine clb_ (g3) ?_) | (refine clb_ (g4) ?_) | (refine clb_ (g5) ?_) | (refine br_ (fun hbr => ?_) (fun hbr => ?_))))
      exact NextW.go (k + 1) covT_ ⟨by omega, by omega⟩ (by omega)
    · obtain rfl : k = n := by omega
      (refine RetOK.d rfl rfl ?_; conv => whnf)
      rfl
def wtN (k : Nat) : Nat := if k % 4 = 0 then 16777216 else if k % 4 = 1 then 65536 else if k % 4 = 2 then 256 else 1
theorem wtN_le (k : Nat) : 1 ≤ wtN k ∧ wtN k ≤ 16777216 := by unfold wtN; split <;> (try split) <;> (try split) <;> omega
theorem wtN_pow (k b : Nat) (hb : 32 ≤ b) : ((wtN k : Nat) : Int) = 2 ^ min (8 * (3 - ((k % 4 : Nat) : Int))).toNat b := by
  have h4 : k % 4 < 4 := Nat.mod_lt _ (by decide)
  unfold wtN
  rcases (show k % 4 = 0 ∨ k % 4 = 1 ∨ k % 4 = 2 ∨ k % 4 = 3 by omega) with h | h | h | h <;> rw [h] <;> simp <;> (rw [Nat.min_eq_left (by omega)]) <;> rfl
def smK (s : ByteArray) : Nat → Nat
  | 0 => 0
  | k + 1 => smK s k + ((s[k]?).map UInt8.toNat).getD 0 * wtN k
theorem smK_at {s : ByteArray} {k : Nat} {c : UInt8} (h : s[k]? = some c) : smK s (k + 1) = smK s k + c.toNat * wtN k := by rw [smK, h]; rfl
theorem smK_le (s : ByteArray) : ∀ k, smK s k ≤ k * 4294967296
  | 0 => by simp [smK]
  | k + 1 => by
    have ih := smK_le s k
    have hw := wtN_le k
    have hc : ((s[k]?).map UInt8.toNat).getD 0 ≤ 255 := by
      cases s[k]? with
      | none => simp
      | some c => have := c.toNat_lt; simp; omega
    have : ((s[k]?).map UInt8.toNat).getD 0 * wtN k ≤ 255 * 16777216 := Nat.mul_le_mul hc hw.2
    rw [smK]; omega
def sumB (s : ByteArray) : Int := ((smK s s.size % 4294967296 : Nat) : Int)
theorem Sum32_v (s : ByteArray) : PC Tryd.prog 20 [.d (.str s)] (.d (.int .i64 (sumB s))) [] := by
  refine pc_intro ttOk (by kernel_rfl) Tryd.func20 rfl (by kernel_rfl) (by kernel_rfl) (by kernel_rfl) (fun hw => ?_)
  have hs : s.size ≤ 9223372036854775807 := hw.1
  (conv => whnf)
  refine LoopW.go (α := Nat) (fun k => [(0, .d (.str s)), (3, .d (.int .u32 ((smK s k % 4294967296 : Nat)))), (4, .d (.int .i64 k))]) (fun _ => [.gone]) (fun k => k ≤ s.size) (fun k => s.size - k) 0 covT_ (by omega) (fun k hk => ?_)
  (conv => whnf)
  (refine br_ (fun h1 => ?_) (fun h1 => ?_))
  · have hc := bget? (s := s) (k := k) (by omega)
    have hcl := (s[k]'(by omega)).toNat_lt
    have hwt := wtN_le k
    have hm : (s[k]'(by omega)).toNat * wtN k ≤ 255 * 16777216 := Nat.mul_le_mul (by omega) hwt.2
    have ht : (k : Int).tmod 4 = ((k % 4 : Nat) : Int) := by rw [Int.tmod_eq_emod_of_nonneg (by omega)]; rfl
    have hp := wtN_pow k 32 (by omega)
    have hk4 : k % 4 < 4 := Nat.mod_lt _ (by decide)
    obtain ⟨P, hP⟩ : ∃ P : Nat, P = (s[k]'(by omega)).toNat * wtN k := ⟨_, rfl⟩
    have e : (((s[k]'(by omega)).toNat : Nat) : Int) * ((wtN k : Nat) : Int) = (P : Int) := by rw [hP]; simp
    rw [← hP] at hm
    have hS := smK_at hc
    rw [← hP] at hS
    repeat (first | (refine stg_ ?_) | (rw [ht]; (refine stg_ ?_)))
    refine ShW.at (q := ((wtN k : Nat) : Int)) hp (by omega) ?_
    (conv => whnf)
    rw [e]
    (refine stg_ ?_)
    refine ⟨((smK s (k + 1) % 4294967296 : Nat) : Int), by simp only [IntKind.wrap, IntKind.bits, IntKind.signed, Bool.false_and, Bool.false_eq_true, if_false, Int.reducePow]; omega, ?_⟩
    (conv => whnf)
    (repeat (refine stg_ ?_))
    exact NextW.go (k + 1) covT_ (by omega) (by omega)
  · obtain rfl : k = s.size := by omega
    (repeat (refine stg_ ?_))
    (refine RetOK.d rfl rfl ?_; conv => whnf)
    rfl
theorem l01Sum_v (s : ByteArray) (hz : s.size ≤ 1048576) : PC Tryd.prog 58 [.d (.str s)] (.d (.int .i64 (sumB s))) [] := by
  refine pc_intro ttOk (by kernel_rfl) Tryd.func58 rfl (by kernel_rfl) (by kernel_rfl) (by kernel_rfl) (fun hw => ?_)
  (conv => whnf)
  refine LoopW.go (α := Nat) (fun k => [(0, .d (.str s)), (3, .d (.int .i64 (smK s k : Nat))), (4, .d (.int .i64 k))]) (fun _ => [.gone]) (fun k => k ≤ s.size) (fun k => s.size - k) 0 covT_ (by omega) (fun k hk => ?_)
  have hle := smK_le s k
  (conv => whnf)
  (refine br_ (fun h1 => ?_) (fun h1 => ?_))
  · have hc := bget? (s := s) (k := k) (by omega)
    have hcl := (s[k]'(by omega)).toNat_lt
    have hwt := wtN_le k
    have hm : (s[k]'(by omega)).toNat * wtN k ≤ 255 * 16777216 := Nat.mul_le_mul (by omega) hwt.2
    have ht : (k : Int).tmod 4 = ((k % 4 : Nat) : Int) := by rw [Int.tmod_eq_emod_of_nonneg (by omega)]; rfl
    have hp := wtN_pow k 64 (by omega)
    have hk4 : k % 4 < 4 := Nat.mod_lt _ (by decide)
    obtain ⟨P, hP⟩ : ∃ P : Nat, P = (s[k]'(by omega)).toNat * wtN k := ⟨_, rfl⟩
    have e : (((s[k]'(by omega)).toNat : Nat) : Int) * ((wtN k : Nat) : Int) = (P : Int) := by rw [hP]; simp
    rw [← hP] at hm
    have hS := smK_at hc
    rw [← hP] at hS
    repeat (first | (refine stg_ ?_) | (rw [ht]; (refine stg_ ?_)))
    refine ShW.at (q := ((wtN k : Nat) : Int)) hp (by omega) ?_
    (conv => whnf)
    rw [e]
    (refine stg_ ?_)
    refine ArW.i64e ((smK s (k + 1) : Nat) : Int) (by omega) (by omega) ?_
    (conv => whnf)
    (repeat (refine stg_ ?_))
    exact NextW.go (k + 1) covT_ (by omega) (by omega)
  · obtain rfl : k = s.size := by omega
    refine ArW.i64e (sumB s) ?_ (by unfold sumB; omega) ?_
    · show (((BitVec.ofInt 64 ((smK s s.size : Nat) : Int) &&& BitVec.ofInt 64 4294967295).toNat : Nat) : Int) = _
      rw [show BitVec.ofInt 64 4294967295 = 4294967295#64 from rfl, BitVec.toNat_and, BitVec.toNat_ofInt, show (4294967295#64).toNat = 2 ^ 32 - 1 from rfl, Nat.and_two_pow_sub_one_eq_mod]
      unfold sumB
      omega
    · (conv => whnf)
      (refine RetOK.d rfl rfl ?_; conv => whnf)
def gwK (s : ByteArray) (a : Nat) : Nat → Nat
  | 0 => 0
  | j + 1 => gwK s a j * 256 + ((s[a + j]?).map UInt8.toNat).getD 0
theorem gwK_at {s : ByteArray} {a j : Nat} {c : UInt8} (h : s[a + j]? = some c) : gwK s a (j + 1) = gwK s a j * 256 + c.toNat := by rw [gwK, h]; rfl
theorem gwK_lt (s : ByteArray) (a : Nat) : ∀ j, gwK s a j < 256 ^ j
  | 0 => by simp [gwK]
  | j + 1 => by
    have ih := gwK_lt s a j
    have hc : ((s[a + j]?).map UInt8.toNat).getD 0 ≤ 255 := by
      cases s[a + j]? with
      | none => simp
      | some c => have := c.toNat_lt; simp; omega
    rw [gwK, Nat.pow_succ]; omega
theorem or_add {n c : Nat} (hn : n < 1099511627776) (hc : c < 256) : (((BitVec.ofInt IntKind.i64.bits ((n : Int) * 256) ||| BitVec.ofInt IntKind.i64.bits (c : Int)).toNat : Nat) : Int) = (n : Int) * 256 + c := by
  show (((BitVec.ofInt 64 ((n : Int) * 256) ||| BitVec.ofInt 64 (c : Int)).toNat : Nat) : Int) = _
  rw [BitVec.toNat_or, BitVec.toNat_ofInt, BitVec.toNat_ofInt]
  have e1 : ((n : Int) * 256 % ((2 ^ 64 : Nat) : Int)).toNat = 2 ^ 8 * n := by omega
  have e2 : ((c : Int) % ((2 ^ 64 : Nat) : Int)).toNat = c := by omega
  rw [e1, e2, ← Nat.two_pow_add_eq_or_of_lt (i := 8) (by omega)]
  omega
def wdL : Nat → Int → List UInt8
  | 0, _ => []
  | b + 1, n => wdL b (n / 256) ++ [UInt8.ofNat (n % 256).toNat]
theorem wdL_len : ∀ b n, (wdL b n).length = b
  | 0, _ => rfl
  | b + 1, n => by rw [wdL, List.length_append, wdL_len b]; rfl
theorem wdL_per : ∀ (b : Nat) (n t : Int), wdL b (n + 256 ^ b * t) = wdL b n
  | 0, _, _ => rfl
  | b + 1, n, t => by
    have e : (256 : Int) ^ (b + 1) * t = 256 * (256 ^ b * t) := by rw [Int.pow_succ, Int.mul_comm (256 ^ b) 256, Int.mul_assoc]
    rw [wdL, wdL, e, Int.add_mul_ediv_left _ _ (by omega), Int.add_mul_emod_self_left, wdL_per b]
theorem wdL_mod (b : Nat) (n : Int) (h : b ≤ 8) : wdL b (n % 18446744073709551616) = wdL b n := by
  have e : (18446744073709551616 : Int) = 256 ^ b * 256 ^ (8 - b) := by rw [← Int.pow_add, show b + (8 - b) = 8 by omega]; rfl
  have e2 : n = n % 18446744073709551616 + 256 ^ b * (256 ^ (8 - b) * (n / 18446744073709551616)) := by rw [← Int.mul_assoc, ← e]; omega
  conv => rhs; rw [e2, wdL_per]
theorem and255 (n : Int) : (((BitVec.ofInt IntKind.i64.bits n &&& BitVec.ofInt IntKind.i64.bits 255).toNat : Nat) : Int) = n % 256 := by
  have e : BitVec.ofInt 64 255 = 255#64 := rfl
  show (((BitVec.ofInt 64 n &&& BitVec.ofInt 64 255).toNat : Nat) : Int) = _
  rw [e, BitVec.toNat_and, BitVec.toNat_ofInt, show (255#64).toNat = 2 ^ 8 - 1 from rfl, Nat.and_two_pow_sub_one_eq_mod]
  omega
theorem bD_lo (n : Int) : D.int .u8 (n % 256) = bD (UInt8.ofNat (n % 256).toNat) := by
  have h1 : 0 ≤ n % 256 := by omega
  have h2 : n % 256 < 256 := by omega
  have : (UInt8.ofNat (n % 256).toNat).toNat = (n % 256).toNat := by rw [UInt8.toNat_ofNat']; omega
  rw [bD, this, Int.toNat_of_nonneg h1]
def iz : Nat → Int
  | 0 => -1
  | j + 1 => ((j : Nat) : Int)
theorem iz_eq (b : Nat) : ((b : Nat) : Int) - 1 = iz b := by cases b <;> simp [iz] <;> omega
theorem l01Word_v (n : Int) (b : Nat) (hb : b ≤ 4) : PC Tryd.prog 57 [.d (.int .i64 n), .d (.int .i64 b)] (.d (.str (mkS (wdL b n)))) [] := by
  refine pc_intro ttOk (by kernel_rfl) Tryd.func57 rfl (by kernel_rfl) (by kernel_rfl) (by kernel_rfl) (fun hw => ?_)
  have hn : -9223372036854775808 ≤ n ∧ n ≤ 9223372036854775807 := hw.1
  (conv => whnf)
  refine MkW.at (by omega) (by omega) (by show ((1 : Nat) : Int) * _ ≤ _; omega) ?_
  (conv => whnf)
  (repeat (refine stg_ ?_))
  refine LoopW.go (α := Nat × Int × List UInt8) (fun p => [(0, .d (.int .i64 p.2.1)), (5, .own 1 0 b), (6, .d (.int .i64 (iz p.1)))]) (fun p => [.gone, .arr 1 (p.2.2.map bD) true]) (fun p => p.1 ≤ b ∧ p.2.2.length = b ∧ (-9223372036854775808 ≤ p.2.1 ∧ p.2.1 ≤ 9223372036854775807) ∧ wdL b n = wdL p.1 p.2.1 ++ p.2.2.drop p.1) (fun p => p.1) (b, n, List.replicate b 0) ?_ ⟨Nat.le_refl _, by simp, hn, by rw [List.drop_eq_nil_of_le (by simp), List.append_nil]⟩ ?_
  · refine Weak.cov ⟨rfl, rfl, ?_, trivial⟩ ⟨trivial, ?_, trivial⟩ rfl
    · rw [← iz_eq]; rfl
    · rw [List.map_replicate]; rfl
  rintro ⟨j, u, bs⟩ ⟨k1, k2, k3, k4⟩
  dsimp only at k1 k2 k3 k4 ⊢
  have hm : (bs.map bD).length = bs.length := List.length_map _
  rcases j with _ | m
  · (conv => whnf)
    (repeat (refine stg_ ?_))
    refine StW.at (s := mkS (wdL b n)) (by rw [mkS_toList, k4, List.drop_zero, List.take_of_length_le (by omega), wdL, List.drop_zero, List.nil_append]) ?_
    (conv => whnf)
    (refine RetOK.d rfl rfl ?_; conv => whnf)
  · (conv => whnf)
    refine ArW.i64e (u % 256) (and255 u) (by omega) ?_
    (conv => whnf)
    obtain ⟨c0, hc0⟩ := at_lt' (xs := bs) (k := m) (by omega)
    have he : (bs.map bD)[m]? = some (bD c0) := by rw [List.getElem?_map, hc0]; rfl
    (refine stg_ ?_)
    refine IoW.at (by show (0 : Int) ≤ ((m : Nat) : Int); omega) (by show ((m : Nat) : Int) < _; omega) ?_
    (conv => whnf)
    (try (refine EoW.at he ?_; (conv => whnf)))
    (repeat (refine stg_ ?_))
    refine ShW.at (q := 256) (by rfl) (by omega) ?_
    (conv => whnf)
    (repeat (refine stg_ ?_))
    refine ArW.i64e (iz m) (by rw [← iz_eq m]; rfl) (by have := iz_eq m; omega) ?_
    (conv => whnf)
    (repeat (refine stg_ ?_))
    refine NextW.go (m, u / 256, bs.set m (UInt8.ofNat (u % 256).toNat)) (Weak.cov ⟨rfl, rfl, rfl, trivial⟩ ⟨trivial, ?_, trivial⟩ rfl) ⟨by simp only; omega, by simp only [List.length_set]; omega, by simp only; omega, ?_⟩ (by show m < m + 1; omega)
    · show Blk.arr 1 _ true = Blk.arr 1 _ true
      rw [bD_lo, List.map_set]; rfl
    · show wdL b n = wdL m (u / 256) ++ (bs.set m (UInt8.ofNat (u % 256).toNat)).drop m
      rw [k4, wdL, set_drop (by omega)]; simp
theorem PutWord_v (n : Int) (b : Nat) (h1 : 1 ≤ b) (h2 : b ≤ 4) (hr : -(256 ^ b / 2) ≤ n ∧ n < 256 ^ b) : PC Tryd.prog 19 [.d (.int .i64 n), .d (.int .i64 b)] (.d (.str (mkS (wdL b n)))) [] := by
  refine pc_intro ttOk (by kernel_rfl) Tryd.func19 rfl (by kernel_rfl) (by kernel_rfl) (by kernel_rfl) (fun hw => ?_)
  have hn : -9223372036854775808 ≤ n ∧ n ≤ 9223372036854775807 := hw.1
  have hp : (256 : Int) ^ b = ((256 ^ b : Nat) : Int) := by simp
  have hq : 256 ≤ 256 ^ b ∧ 256 ^ b ≤ 4294967296 := by
    have a1 : 256 ^ 1 ≤ 256 ^ b := Nat.pow_le_pow_right (by omega) h1
    have a2 : 256 ^ b ≤ 256 ^ 4 := Nat.pow_le_pow_right (by omega) h2
    omega
  have hS : (2 : Int) ^ min (8 * (b : Int)).toNat IntKind.i64.bits = ((256 ^ b : Nat) : Int) := by
    have : (8 * (b : Int)).toNat = 8 * b := by omega
    rw [this, show IntKind.i64.bits = 64 from rfl, show min (8 * b) 64 = 8 * b by omega, Int.pow_mul, ← hp]
    rfl
  rw [hp] at hr
  generalize 256 ^ b = p at *
  have ed : (0 - (p : Int)).tdiv 2 = -((p / 2 : Nat) : Int) := by rw [Int.zero_sub, Int.neg_tdiv, Int.tdiv_eq_ediv_of_nonneg (by omega)]; rfl
  (conv => whnf)
  (repeat' (first | (refine stg_ ?_) | fail | (refine br_ (fun hbr => ?_) (fun hbr => ?_))))
  all_goals first | (exfalso; omega) | skip
  refine ShW.at (q := (p : Int)) hS.symm (by omega) ?_
  (conv => whnf)
  refine ArW.i64e (p : Int) (by omega) (by omega) ?_
  (conv => whnf)
  (repeat (refine stg_ ?_))
  rw [ed]
  (repeat' (first | (refine stg_ ?_) | fail | (refine br_ (fun hbr => ?_) (fun hbr => ?_))))
  all_goals first | (exfalso; omega) | skip
  refine MkW.at (by omega) (by omega) (by show ((1 : Nat) : Int) * _ ≤ _; omega) ?_
  (conv => whnf)
  (repeat (refine stg_ ?_))
  obtain ⟨U, hU⟩ : ∃ U, U = n % 18446744073709551616 := ⟨_, rfl⟩
  refine ⟨U, by rw [hU]; simp only [IntKind.wrap, IntKind.bits, IntKind.signed, Bool.false_and, Bool.false_eq_true, if_false, Int.reducePow], ?_⟩
  (conv => whnf)
  (repeat (refine stg_ ?_))
  have hW : wdL b U = wdL b n := by rw [hU]; exact wdL_mod b n (by omega)
  rw [← hW]
  refine LoopW.go (α := Nat × Int × List UInt8) (fun p => [(6, .own 1 0 b), (7, .d (.int .u64 p.2.1)), (8, .d (.int .i64 (iz p.1)))]) (fun p => [.gone, .arr 1 (p.2.2.map bD) true]) (fun p => p.1 ≤ b ∧ p.2.2.length = b ∧ (0 ≤ p.2.1 ∧ p.2.1 < 18446744073709551616) ∧ wdL b U = wdL p.1 p.2.1 ++ p.2.2.drop p.1) (fun p => p.1) (b, U, List.replicate b 0) ?_ ⟨Nat.le_refl _, by simp, by simp only; omega, by rw [List.drop_eq_nil_of_le (by simp), List.append_nil]⟩ ?_
  · refine Weak.cov ⟨rfl, rfl, ?_, trivial⟩ ⟨trivial, ?_, trivial⟩ rfl
    · rw [← iz_eq]; rfl
    · rw [List.map_replicate]; rfl
  rintro ⟨j, u, bs⟩ ⟨k1, k2, k3, k4⟩
  dsimp only at k1 k2 k3 k4 ⊢
  have hm : (bs.map bD).length = bs.length := List.length_map _
  rcases j with _ | m
  · (conv => whnf)
    (repeat (refine stg_ ?_))
    refine StW.at (s := mkS (wdL b U)) (by rw [mkS_toList, k4, List.drop_zero, List.take_of_length_le (by omega), wdL, List.drop_zero, List.nil_append]) ?_
    (conv => whnf)
    (refine RetOK.d rfl rfl ?_; conv => whnf)
  · (conv => whnf)
    obtain ⟨c0, hc0⟩ := at_lt' (xs := bs) (k := m) (by omega)
    have he : (bs.map bD)[m]? = some (bD c0) := by rw [List.getElem?_map, hc0]; rfl
    refine ⟨u % 256, by simp only [IntKind.wrap, IntKind.bits, IntKind.signed, Bool.false_and, Bool.false_eq_true, if_false, Int.reducePow], ?_⟩
    (conv => whnf)
    refine IoW.at (by show (0 : Int) ≤ ((m : Nat) : Int); omega) (by show ((m : Nat) : Int) < _; omega) ?_
    (conv => whnf)
    (try (refine EoW.at he ?_; (conv => whnf)))
    (repeat (refine stg_ ?_))
    refine ShW.at (q := 256) (by rfl) (by omega) ?_
    (conv => whnf)
    (repeat (refine stg_ ?_))
    refine ArW.i64e (iz m) (by rw [← iz_eq m]; rfl) (by have := iz_eq m; omega) ?_
    (conv => whnf)
    (repeat (refine stg_ ?_))
    refine NextW.go (m, u / 256, bs.set m (UInt8.ofNat (u % 256).toNat)) (Weak.cov ⟨rfl, rfl, rfl, trivial⟩ ⟨trivial, ?_, trivial⟩ rfl) ⟨by simp only; omega, by simp only [List.length_set]; omega, by simp only; omega, ?_⟩ (by show m < m + 1; omega)
    · show Blk.arr 1 _ true = Blk.arr 1 _ true
      rw [bD_lo, List.map_set]; rfl
    · show wdL b U = wdL m (u / 256) ++ (bs.set m (UInt8.ofNat (u % 256).toNat)).drop m
      rw [k4, wdL, set_drop (by omega)]; simp
def atT (xs : List TTable) (k : Nat) : Nat := 12 + 16 * xs.length + sumT (xs.take k)
def w4 (n : Int) : ByteArray := mkS (wdL 4 n)
theorem w4_size (n : Int) : (w4 n).size = 4 := by rw [w4, mkS_size, wdL_len]
def entB (xs : List TTable) (k : Nat) (x : TTable) : ByteArray := x.fTag ++ w4 (sumB x.fData) ++ w4 ((atT xs k : Nat) : Int) ++ w4 ((x.fData.size : Nat) : Int)
theorem entB_size (xs : List TTable) (k : Nat) (x : TTable) : (entB xs k x).size = x.fTag.size + 12 := by simp only [entB, ByteArray.size_append, w4_size]
def enS (xs : List TTable) : Nat → ByteArray
  | 0 => ⟨#[]⟩
  | k + 1 => match xs[k]? with
    | some x => enS xs k ++ entB xs k x
    | none => enS xs k
theorem enS_at {xs : List TTable} {k : Nat} {x : TTable} (h : xs[k]? = some x) : enS xs (k + 1) = enS xs k ++ entB xs k x := by rw [enS, h]
def pn (x : TTable) : Nat := pd x - x.fData.size
theorem pd_ge (x : TTable) : x.fData.size ≤ pd x ∧ pd x ≤ x.fData.size + 3 := by unfold pd; omega
theorem pn_le (x : TTable) : pn x ≤ 3 := by have := pd_ge x; unfold pn; omega
def daB (x : TTable) : ByteArray := x.fData ++ zB (pn x)
theorem daB_size (x : TTable) : (daB x).size = pd x := by
  have := pd_ge x
  simp only [daB, ByteArray.size_append, zB_size, pn]; omega
def daS (xs : List TTable) : Nat → ByteArray
  | 0 => ⟨#[]⟩
  | k + 1 => match xs[k]? with
    | some x => daS xs k ++ daB x
    | none => daS xs k
theorem daS_at {xs : List TTable} {k : Nat} {x : TTable} (h : xs[k]? = some x) : daS xs (k + 1) = daS xs k ++ daB x := by rw [daS, h]
theorem daS_size (xs : List TTable) : ∀ k, k ≤ xs.length → (daS xs k).size = sumT (xs.take k)
  | 0, _ => rfl
  | k + 1, h => by
    obtain ⟨x, hx⟩ := at_lt' (xs := xs) (k := k) (by omega)
    rw [daS_at hx, ByteArray.size_append, daB_size, daS_size xs k (by omega), sumT_at hx]
theorem enS_size (xs : List TTable) (c : Nat) (hc : ∀ x ∈ xs, x.fTag.size ≤ c) : ∀ k, k ≤ xs.length → (enS xs k).size ≤ (c + 12) * k
  | 0, _ => Nat.zero_le _
  | k + 1, h => by
    obtain ⟨x, hx⟩ := at_lt' (xs := xs) (k := k) (by omega)
    have h1 := hc x (List.mem_of_getElem? hx)
    have h2 := enS_size xs c hc k (by omega)
    rw [enS_at hx, ByteArray.size_append, entB_size, Nat.mul_add, Nat.mul_one]; omega
def headS (xs : List TTable) : ByteArray := ⟨#[80, 84, 70, 49]⟩ ++ w4 ((xs.length : Nat) : Int) ++ w4 (sumB (enS xs xs.length))
def fileS (xs : List TTable) : ByteArray := headS xs ++ enS xs xs.length ++ daS xs xs.length
theorem tag4 {xs : List TTable} (h : ordT xs = true) : ∀ x ∈ xs, x.fTag.size = 4 := by
  have key : ∀ (xs : List TTable) (o : Option TTable), tbGo o xs = true → ∀ x ∈ xs, x.fTag.size = 4 := by
    intro xs
    induction xs with
    | nil => intro o _ x hx; simp at hx
    | cons y t ih =>
      intro o h x hx
      rw [tbGo] at h
      simp only [Bool.and_eq_true] at h
      rcases List.mem_cons.1 hx with rfl | hx
      · have := h.1
        simp only [tagB, Bool.and_eq_true, decide_eq_true_eq] at this
        exact this.1
      · exact ih _ h.2.2 x hx
  simp only [ordT, Bool.and_eq_true] at h
  exact key xs none h.2
theorem data_app (s t : ByteArray) : (s ++ t).data.toList = s.data.toList ++ t.data.toList := by simp
theorem sumB_lt (s : ByteArray) : 0 ≤ sumB s ∧ sumB s < 4294967296 := by unfold sumB; omega
theorem mag_size : ByteArray.size ⟨#[80, 84, 70, 49]⟩ = 4 := rfl
set_option maxHeartbeats 4000000 in
theorem PackTables_v (xs : List TTable) (hz : zL zTable xs ≤ 1048576) (hV : ordT xs = true) (hs : szT xs ≤ 65536) : PC Tryd.prog 6 [.d (.lst (xs.map TTable.D))] (.tup [.d (.str (fileS xs)), .d (.int .i64 0)]) [] := by
  have hL : (xs.map TTable.D).length = xs.length := List.length_map _
  have hl16 : xs.length ≤ 16 := by
    have := hV
    simp only [ordT, Bool.and_eq_true, decide_eq_true_eq] at this
    exact this.1
  have hT4 := tag4 hV
  have hsz : szT xs = 12 + 16 * xs.length + sumT xs := rfl
  have c1 := tagsInOrder_v xs
  rw [hV] at c1
  have c2 := fileSize_v xs hz
  have hE := fun k (hk : k ≤ xs.length) => enS_size xs 4 (fun x hx => Nat.le_of_eq (hT4 x hx)) k hk
  have hD := fun k (hk : k ≤ xs.length) => daS_size xs k hk
  have hS := sumT_le xs
  refine pc_intro ttOk (by kernel_rfl) Tryd.func6 rfl (by kernel_rfl) (by kernel_rfl) (by kernel_rfl) (fun hw => ?_)
  (conv => whnf)
  (repeat' (first | (refine stg_ ?_) | (refine cla_ (c1) ?_) | (refine cla_ (c2) ?_) | (refine br_ (fun hbr => ?_) (fun hbr => ?_))))
  all_goals first | (exfalso; omega) | skip
  refine LoopW.go (α := Nat) (fun k => [(0, .d (.lst (xs.map TTable.D))), (4, .pB 1 [] 0), (5, .pB 2 [] 0), (6, .d (.int .i64 ((atT xs k : Nat) : Int))), (21, .d (.lst (xs.map TTable.D))), (22, .d (.int .i64 xs.length)), (23, .d (.int .i64 k))])
    (fun k => [.gone, .bld 46 5 (enS xs k).data.toList, .bld 46 5 (daS xs k).data.toList]) (fun k => k ≤ xs.length) (fun k => xs.length - k) 0
    (Weak.cov ⟨rfl, rfl, rfl, ?_, rfl, by rw [← hL]; rfl, rfl, trivial⟩ ⟨trivial, rfl, rfl, trivial⟩ rfl) (Nat.zero_le _) (fun k hk => ?_)
  · exact congrArg (fun z => V.d (D.int .i64 z)) (by rw [hL]; show _ = ((12 + 16 * xs.length + sumT (xs.take 0) : Nat) : Int); simp [sumT])
  have hle1 : (enS xs k).data.toList.length = (enS xs k).size := Array.length_toList
  have hle2 : (daS xs k).data.toList.length = (daS xs k).size := Array.length_toList
  have hEk := hE k hk
  have hDk := hD k hk
  have hSk := hS k
  (conv => whnf)
  (repeat (refine stg_ ?_))
  (refine br_ (fun h1 => ?_) (fun h1 => ?_) <;> (repeat (refine stg_ ?_)))
  · obtain ⟨x, hx⟩ := at_lt' (xs := xs) (k := k) (by omega)
    have hxt := hT4 x (List.mem_of_getElem? hx)
    have hp := pd_ge x
    have hpn := pn_le x
    have hzx := zT_at hx
    have hsb := sumB_lt x.fData
    have hat : atT xs k = 12 + 16 * xs.length + sumT (xs.take k) := rfl
    have d1 := Sum32_v x.fData
    have d2 := PutWord_v (sumB x.fData) 4 (by omega) (by omega) (by omega)
    have d3 := PutWord_v ((atT xs k : Nat) : Int) 4 (by omega) (by omega) (by omega)
    have d4 := PutWord_v ((x.fData.size : Nat) : Int) 4 (by omega) (by omega) (by omega)
    have d5 := paddedSize_v ((x.fData.size : Nat) : Int) (by omega) (by omega)
    rw [show (((x.fData.size : Nat) : Int) + 3) / 4 * 4 = ((pd x : Nat) : Int) by unfold pd; omega] at d5
    have d6 : PC Tryd.prog 22 [.d (.str ⟨#[0]⟩), .d (.int .i64 (((pd x : Nat) : Int) - ((x.fData.size : Nat) : Int)))] (.d (.str (zB (pn x)))) [] := by
      rw [show ((pd x : Nat) : Int) - ((x.fData.size : Nat) : Int) = ((pn x : Nat) : Int) by unfold pn; omega]
      exact Repeat_c (pn x) hpn
    change PC _ _ _ (.d (.str (w4 _))) _ at d2
    change PC _ _ _ (.d (.str (w4 _))) _ at d3
    change PC _ _ _ (.d (.str (w4 _))) _ at d4
    have d7 := ws_b (enS xs k).data.toList (entB xs k x) (by rw [entB_size]; omega)
    have d8 := ws_b (daS xs k).data.toList (daB x) (by rw [daB_size]; omega)
    rw [← data_app, ← enS_at hx] at d7
    rw [← data_app, ← daS_at hx] at d8
    have w1 := w4_size (sumB x.fData)
    have w2 := w4_size ((atT xs k : Nat) : Int)
    have w3 := w4_size ((x.fData.size : Nat) : Int)
    have w5 := zB_size (pn x)
    (repeat' (first | (refine stg_ ?_) | (refine cla_ (d1) ?_) | (refine cla_ (d2) ?_) | (refine cla_ (d3) ?_) | (refine cla_ (d4) ?_) | (refine cla_ (d5) ?_) | (refine cla_ (d6) ?_) | (refine clb_ (d7) ?_) | (refine clb_ (d8) ?_) | (refine CatW.at (by show _ ≤ 9223372036854775807; simp only [ByteArray.size_append, w1, w2, w3, w5]; omega) ?_; conv => whnf) | (refine br_ (fun hbr => ?_) (fun hbr => ?_))))
    have hat2 : atT xs (k + 1) = atT xs k + pd x := by unfold atT; rw [sumT_at hx]; omega
    exact NextW.go (k + 1) (Weak.cov ⟨rfl, rfl, rfl, congrArg (fun z => V.d (D.int .i64 z)) (by rw [hat2]; omega), rfl, rfl, rfl, trivial⟩ ⟨trivial, rfl, rfl, trivial⟩ rfl) (by omega) (by omega)
  · obtain rfl : k = xs.length := by omega
    have hsb := sumB_lt (enS xs xs.length)
    have e1 : PC Tryd.prog 19 [.d (.int .i64 (((xs.map TTable.D).length : Nat) : Int)), .d (.int .i64 (4 : Nat))] (.d (.str (w4 ((xs.length : Nat) : Int)))) [] := by rw [hL]; exact PutWord_v _ 4 (by omega) (by omega) (by omega)
    have e2 := str_b (enS xs xs.length).data.toList
    change BC _ _ _ _ _ _ (.d (.str (enS xs xs.length))) _ at e2
    have e3 := Sum32_v (enS xs xs.length)
    have e4 := PutWord_v (sumB (enS xs xs.length)) 4 (by omega) (by omega) (by omega)
    change PC _ _ _ (.d (.str (w4 _))) _ at e4
    have e5 := str_b (daS xs xs.length).data.toList
    change BC _ _ _ _ _ _ (.d (.str (daS xs xs.length))) _ at e5
    have w1 := w4_size ((xs.length : Nat) : Int)
    have w2 := w4_size (sumB (enS xs xs.length))
    (repeat' (first | (refine stg_ ?_) | (refine cla_ (e1) ?_) | (refine clb_ (e2) ?_) | (refine cla_ (e3) ?_) | (refine cla_ (e4) ?_) | (refine clb_ (e5) ?_) | (refine CatW.at (by show _ ≤ 9223372036854775807; simp only [ByteArray.size_append, w1, w2, mag_size]; omega) ?_; conv => whnf) | (refine br_ (fun hbr => ?_) (fun hbr => ?_))))
    (refine RetOK.t rfl ?_; (repeat' ((conv => whnf); (first | done | (refine ⟨_, _, rfl, ⟨rfl, ?_⟩, ?_⟩) | fail))); (all_goals (conv => whnf)))
    all_goals rfl
theorem PackTables_no (xs : List TTable) (hz : zL zTable xs ≤ 1048576) (h : ¬ (ordT xs = true ∧ szT xs ≤ 65536)) : PC Tryd.prog 6 [.d (.lst (xs.map TTable.D))] (.tup [.d (.str ⟨#[]⟩), .d (.int .i64 (if ordT xs = true then 5 else 1))]) [] := by
  have c1 := tagsInOrder_v xs
  have c2 := fileSize_v xs hz
  cases hV : ordT xs with
  | false =>
    rw [hV] at c1
    refine pc_intro ttOk (by kernel_rfl) Tryd.func6 rfl (by kernel_rfl) (by kernel_rfl) (by kernel_rfl) (fun hw => ?_)
    (conv => whnf)
    (repeat' (first | (refine stg_ ?_) | (refine cla_ (c1) ?_) | (refine cla_ (c2) ?_) | (refine br_ (fun hbr => ?_) (fun hbr => ?_))))
    all_goals first | (exfalso; simp_all; done) | skip
    (refine RetOK.t rfl ?_; (repeat' ((conv => whnf); (first | done | (refine ⟨_, _, rfl, ⟨rfl, ?_⟩, ?_⟩) | fail))); (all_goals (conv => whnf)))
    all_goals rfl
  | true =>
    rw [hV] at c1
    have hs : ¬ szT xs ≤ 65536 := fun q => h ⟨hV, q⟩
    refine pc_intro ttOk (by kernel_rfl) Tryd.func6 rfl (by kernel_rfl) (by kernel_rfl) (by kernel_rfl) (fun hw => ?_)
    (conv => whnf)
    (repeat' (first | (refine stg_ ?_) | (refine cla_ (c1) ?_) | (refine cla_ (c2) ?_) | (refine br_ (fun hbr => ?_) (fun hbr => ?_))))
    all_goals first | (exfalso; omega) | skip
    (refine RetOK.t rfl ?_; (repeat' ((conv => whnf); (first | done | (refine ⟨_, _, rfl, ⟨rfl, ?_⟩, ?_⟩) | fail))); (all_goals (conv => whnf)))
    all_goals rfl
theorem zB_row (n : Nat) : List.replicate n (D.int .u8 0) = (zB n).data.toList.map bD := by
  show _ = (List.replicate n (0 : UInt8)).map bD
  rw [List.map_replicate]; rfl
set_option maxHeartbeats 4000000 in
theorem l31Entries_v (xs : List TTable) (hz : zL zTable xs ≤ 1048576) (hV : ordT xs = true) (hs : szT xs ≤ 65536) : PC Tryd.prog 56 [.d (.lst (xs.map TTable.D))] (.d (.str (enS xs xs.length))) [] := by
  have hL : (xs.map TTable.D).length = xs.length := List.length_map _
  have hl16 : xs.length ≤ 16 := by
    have := hV
    simp only [ordT, Bool.and_eq_true, decide_eq_true_eq] at this
    exact this.1
  have hT4 := tag4 hV
  have hsz : szT xs = 12 + 16 * xs.length + sumT xs := rfl
  have hE := fun k (hk : k ≤ xs.length) => enS_size xs 4 (fun x hx => Nat.le_of_eq (hT4 x hx)) k hk
  have hS := sumT_le xs
  refine pc_intro ttOk (by kernel_rfl) Tryd.func56 rfl (by kernel_rfl) (by kernel_rfl) (by kernel_rfl) (fun hw => ?_)
  (conv => whnf)
  (repeat' (first | (refine stg_ ?_) | fail | (refine br_ (fun hbr => ?_) (fun hbr => ?_))))
  refine LoopW.go (α := Nat) (fun k => [(0, .d (.lst (xs.map TTable.D))), (3, .d (.str (enS xs k))), (4, .d (.int .i64 ((atT xs k : Nat) : Int))), (5, .d (.int .i64 k))])
    (fun k => [.gone]) (fun k => k ≤ xs.length) (fun k => xs.length - k) 0
    (Weak.cov ⟨rfl, rfl, ?_, rfl, trivial⟩ ⟨trivial, trivial⟩ rfl) (Nat.zero_le _) (fun k hk => ?_)
  · exact congrArg (fun z => V.d (D.int .i64 z)) (by rw [hL]; show _ = ((12 + 16 * xs.length + sumT (xs.take 0) : Nat) : Int); simp [sumT])
  have hEk := hE k hk
  have hSk := hS k
  (conv => whnf)
  (repeat (refine stg_ ?_))
  (refine br_ (fun h1 => ?_) (fun h1 => ?_) <;> (repeat (refine stg_ ?_)))
  · obtain ⟨x, hx⟩ := at_lt' (xs := xs) (k := k) (by omega)
    have hxt := hT4 x (List.mem_of_getElem? hx)
    have hp := pd_ge x
    have hpn := pn_le x
    have hzx := zT_at hx
    have hsb := sumB_lt x.fData
    have hat : atT xs k = 12 + 16 * xs.length + sumT (xs.take k) := rfl
    have d1 := l01Sum_v x.fData (by omega)
    have d2 := l01Word_v (sumB x.fData) 4 (by omega)
    have d3 := l01Word_v ((atT xs k : Nat) : Int) 4 (by omega)
    have d4 := l01Word_v ((x.fData.size : Nat) : Int) 4 (by omega)
    have d5 := l31Pad_v ((x.fData.size : Nat) : Int) (by omega)
    rw [show (0 - ((x.fData.size : Nat) : Int)) % 4 = ((pn x : Nat) : Int) by unfold pn pd; omega] at d5
    change PC _ _ _ (.d (.str (w4 _))) _ at d2
    change PC _ _ _ (.d (.str (w4 _))) _ at d3
    change PC _ _ _ (.d (.str (w4 _))) _ at d4
    have w1 := w4_size (sumB x.fData)
    have w2 := w4_size ((atT xs k : Nat) : Int)
    have w3 := w4_size ((x.fData.size : Nat) : Int)
    have hat2 : atT xs (k + 1) = atT xs k + pd x := by unfold atT; rw [sumT_at hx]; omega
    have hpp : pd x = x.fData.size + pn x := by unfold pn; omega
    have hEn := enS_at hx
    (repeat' (first | (refine stg_ ?_) | (refine cla_ (d1) ?_) | (refine cla_ (d2) ?_) | (refine cla_ (d3) ?_) | (refine cla_ (d4) ?_) | (refine cla_ (d5) ?_) | (refine CatW.at (by show _ ≤ 9223372036854775807; simp only [ByteArray.size_append, w1, w2, w3]; omega) ?_; conv => whnf) | (refine br_ (fun hbr => ?_) (fun hbr => ?_))))
    exact NextW.go (k + 1) (Weak.cov ⟨rfl, (by show _ = V.d (.str (enS xs (k + 1))); rw [hEn]; rfl), congrArg (fun z => V.d (D.int .i64 z)) (by rw [hat2]; omega), rfl, trivial⟩ ⟨trivial, trivial⟩ rfl) (by omega) (by omega)
  · obtain rfl : k = xs.length := by omega
    (repeat' (first | (refine stg_ ?_) | fail | (refine br_ (fun hbr => ?_) (fun hbr => ?_))))
    (refine RetOK.d rfl rfl ?_; conv => whnf)
theorem bs_assoc (a b c : ByteArray) : a ++ b ++ c = a ++ (b ++ c) := by
  apply ByteArray.ext
  simp [Array.append_assoc]
set_option maxHeartbeats 4000000 in
theorem l31Pack_v (xs : List TTable) (hz : zL zTable xs ≤ 1048576) (hV : ordT xs = true) (hs : szT xs ≤ 65536) : PC Tryd.prog 36 [.d (.lst (xs.map TTable.D))] (.d (.str (fileS xs))) [] := by
  have hL : (xs.map TTable.D).length = xs.length := List.length_map _
  have hl16 : xs.length ≤ 16 := by
    have := hV
    simp only [ordT, Bool.and_eq_true, decide_eq_true_eq] at this
    exact this.1
  have hT4 := tag4 hV
  have hsz : szT xs = 12 + 16 * xs.length + sumT xs := rfl
  have hE := enS_size xs 4 (fun x hx => Nat.le_of_eq (hT4 x hx)) xs.length (Nat.le_refl _)
  have hD := fun k (hk : k ≤ xs.length) => daS_size xs k hk
  have hS := sumT_le xs
  have c1 := l31Entries_v xs hz hV hs
  have hsb := sumB_lt (enS xs xs.length)
  have e1 : PC Tryd.prog 57 [.d (.int .i64 (((xs.map TTable.D).length : Nat) : Int)), .d (.int .i64 (4 : Nat))] (.d (.str (w4 ((xs.length : Nat) : Int)))) [] := by rw [hL]; exact l01Word_v _ 4 (by omega)
  have e3 := l01Sum_v (enS xs xs.length) (by omega)
  have e4 := l01Word_v (sumB (enS xs xs.length)) 4 (by omega)
  change PC _ _ _ (.d (.str (w4 _))) _ at e4
  have w1 := w4_size ((xs.length : Nat) : Int)
  have w2 := w4_size (sumB (enS xs xs.length))
  have hh : (headS xs ++ enS xs xs.length).size ≤ 1000 := by simp only [headS, ByteArray.size_append, w1, w2, mag_size]; omega
  refine pc_intro ttOk (by kernel_rfl) Tryd.func36 rfl (by kernel_rfl) (by kernel_rfl) (by kernel_rfl) (fun hw => ?_)
  (conv => whnf)
  (repeat' (first | (refine stg_ ?_) | (refine cla_ (c1) ?_) | (refine cla_ (e1) ?_) | (refine cla_ (e3) ?_) | (refine cla_ (e4) ?_) | (refine CatW.at (by show _ ≤ 9223372036854775807; simp only [ByteArray.size_append, w1, w2, mag_size]; omega) ?_; conv => whnf) | (refine br_ (fun hbr => ?_) (fun hbr => ?_))))
  refine LoopW.go (α := Nat) (fun k => [(0, .d (.lst (xs.map TTable.D))), (4, .d (.str (headS xs ++ enS xs xs.length ++ daS xs k))), (5, .d (.int .i64 k))])
    (fun k => [.gone]) (fun k => k ≤ xs.length) (fun k => xs.length - k) 0
    (Weak.cov ⟨rfl, ?_, rfl, trivial⟩ ⟨trivial, trivial⟩ rfl) (Nat.zero_le _) (fun k hk => ?_)
  · show _ = V.d (.str (headS xs ++ enS xs xs.length ++ ⟨#[]⟩))
    rw [show headS xs ++ enS xs xs.length ++ (⟨#[]⟩ : ByteArray) = headS xs ++ enS xs xs.length by apply ByteArray.ext; simp]
    rfl
  have hDk := hD k hk
  have hSk := hS k
  have hF : fileS xs = headS xs ++ enS xs xs.length ++ daS xs xs.length := rfl
  generalize headS xs ++ enS xs xs.length = HE at *
  (conv => whnf)
  (repeat (refine stg_ ?_))
  (refine br_ (fun h1 => ?_) (fun h1 => ?_) <;> (repeat (refine stg_ ?_)))
  · obtain ⟨x, hx⟩ := at_lt' (xs := xs) (k := k) (by omega)
    have hp := pd_ge x
    have hpn := pn_le x
    have hzx := zT_at hx
    have d5 := l31Pad_v ((x.fData.size : Nat) : Int) (by omega)
    rw [show (0 - ((x.fData.size : Nat) : Int)) % 4 = ((pn x : Nat) : Int) by unfold pn pd; omega] at d5
    have w5 := zB_size (pn x)
    have hDn := daS_at hx
    have hassoc : HE ++ daS xs k ++ (x.fData ++ zB (pn x)) = HE ++ daS xs (k + 1) := by rw [hDn, bs_assoc]; rfl
    (repeat' (first | (refine stg_ ?_) | (refine cla_ (d5) ?_) | (refine br_ (fun hbr => ?_) (fun hbr => ?_))))
    refine MkW.at (by omega) (by omega) (by show ((1 : Nat) : Int) * _ ≤ 2 ^ 48; omega) ?_
    (conv => whnf)
    (repeat' (first | (refine stg_ ?_) | fail | (refine br_ (fun hbr => ?_) (fun hbr => ?_))))
    refine StW.at (s := zB (pn x)) (by rw [Int.toNat_natCast, List.drop_zero, List.take_of_length_le (by simp)]; exact zB_row _) ?_
    (conv => whnf)
    (repeat' (first | (refine stg_ ?_) | (refine CatW.at (by show _ ≤ 9223372036854775807; simp only [ByteArray.size_append, w5]; omega) ?_; conv => whnf) | (refine br_ (fun hbr => ?_) (fun hbr => ?_))))
    exact NextW.go (k + 1) (Weak.cov ⟨rfl, (by show _ = V.d (.str (HE ++ daS xs (k + 1))); rw [← hassoc]; rfl), rfl, trivial⟩ ⟨trivial, trivial⟩ rfl) (by omega) (by omega)
  · obtain rfl : k = xs.length := by omega
    (repeat' (first | (refine stg_ ?_) | fail | (refine br_ (fun hbr => ?_) (fun hbr => ?_))))
    (refine RetOK.d rfl rfl ?_; conv => whnf)
    rw [hF]
theorem specPackTables_v (xs : List TTable) (hz : zL zTable xs ≤ 1048576) (hV : ordT xs = true) (hs : szT xs ≤ 65536) : PC Tryd.prog 12 [.d (.lst (xs.map TTable.D))] (.tup [.d (.str (fileS xs)), .d (.int .i64 0)]) [] := by
  have c1 := l31Ok_v xs
  rw [hV] at c1
  have c2 := l31Size_v xs hz
  have c3 := l31Pack_v xs hz hV hs
  refine pc_intro ttOk (by kernel_rfl) Tryd.func12 rfl (by kernel_rfl) (by kernel_rfl) (by kernel_rfl) (fun hw => ?_)
  (conv => whnf)
  (repeat' (first | (refine stg_ ?_) | (refine cla_ (c1) ?_) | (refine cla_ (c2) ?_) | (refine cla_ (c3) ?_) | (refine br_ (fun hbr => ?_) (fun hbr => ?_))))
  all_goals first | (exfalso; omega) | skip
  (refine RetOK.t rfl ?_; (repeat' ((conv => whnf); (first | done | (refine ⟨_, _, rfl, ⟨rfl, ?_⟩, ?_⟩) | fail))); (all_goals (conv => whnf)))
  all_goals rfl
theorem specPackTables_no (xs : List TTable) (hz : zL zTable xs ≤ 1048576) (h : ¬ (ordT xs = true ∧ szT xs ≤ 65536)) : PC Tryd.prog 12 [.d (.lst (xs.map TTable.D))] (.tup [.d (.str ⟨#[]⟩), .d (.int .i64 (if ordT xs = true then 5 else 1))]) [] := by
  have c1 := l31Ok_v xs
  have c2 := l31Size_v xs hz
  cases hV : ordT xs with
  | false =>
    rw [hV] at c1
    refine pc_intro ttOk (by kernel_rfl) Tryd.func12 rfl (by kernel_rfl) (by kernel_rfl) (by kernel_rfl) (fun hw => ?_)
    (conv => whnf)
    (repeat' (first | (refine stg_ ?_) | (refine cla_ (c1) ?_) | (refine cla_ (c2) ?_) | (refine br_ (fun hbr => ?_) (fun hbr => ?_))))
    all_goals first | (exfalso; simp_all; done) | skip
    (refine RetOK.t rfl ?_; (repeat' ((conv => whnf); (first | done | (refine ⟨_, _, rfl, ⟨rfl, ?_⟩, ?_⟩) | fail))); (all_goals (conv => whnf)))
    all_goals rfl
  | true =>
    rw [hV] at c1
    have hs : ¬ szT xs ≤ 65536 := fun q => h ⟨hV, q⟩
    refine pc_intro ttOk (by kernel_rfl) Tryd.func12 rfl (by kernel_rfl) (by kernel_rfl) (by kernel_rfl) (fun hw => ?_)
    (conv => whnf)
    (repeat' (first | (refine stg_ ?_) | (refine cla_ (c1) ?_) | (refine cla_ (c2) ?_) | (refine br_ (fun hbr => ?_) (fun hbr => ?_))))
    all_goals first | (exfalso; omega) | skip
    (refine RetOK.t rfl ?_; (repeat' ((conv => whnf); (first | done | (refine ⟨_, _, rfl, ⟨rfl, ?_⟩, ?_⟩) | fail))); (all_goals (conv => whnf)))
    all_goals rfl
def paS (xs : List TTable) : ByteArray := if ordT xs = true ∧ szT xs ≤ 65536 then fileS xs else ⟨#[]⟩
def paC (xs : List TTable) : Int := if ordT xs = true ∧ szT xs ≤ 65536 then 0 else if ordT xs = true then 5 else 1
theorem PackTables_a (xs : List TTable) (hz : zL zTable xs ≤ 1048576) : PC Tryd.prog 6 [.d (.lst (xs.map TTable.D))] (.tup [.d (.str (paS xs)), .d (.int .i64 (paC xs))]) [] := by
  unfold paS paC
  by_cases h : ordT xs = true ∧ szT xs ≤ 65536
  · rw [if_pos h, if_pos h]; exact PackTables_v xs hz h.1 h.2
  · rw [if_neg h, if_neg h]; exact PackTables_no xs hz h
theorem specPackTables_a (xs : List TTable) (hz : zL zTable xs ≤ 1048576) : PC Tryd.prog 12 [.d (.lst (xs.map TTable.D))] (.tup [.d (.str (paS xs)), .d (.int .i64 (paC xs))]) [] := by
  unfold paS paC
  by_cases h : ordT xs = true ∧ szT xs ≤ 65536
  · rw [if_pos h, if_pos h]; exact specPackTables_v xs hz h.1 h.2
  · rw [if_neg h, if_neg h]; exact specPackTables_no xs hz h
open Go.RowKit Go.Shelf Go.Lib
def InsQ (w : World) (L : List Nat) (ys : List TTable) (e : Ending) (w' : World) : Prop :=
  ∃ (g cap : Nat) (t : TypeId) (arr : Array Value), e = .returned (.slice (some ⟨g, 0, none⟩) ys.length cap) ∧ ys.length ≤ cap ∧ cap ≤ maxLen ∧ w'.heap[g]? = some (.cells arr t (0, 0)) ∧ cap * 2 ≤ arr.size ∧
    (∀ (k : Nat) (v : Value), (tbC ys)[k]? = some v → arr[k]? = some v) ∧ Kept w w' L [g]
theorem first_cells {P : Program} {w : World} {g cap n : Nat} {arr : Array Value} {t : TypeId} {cs : List Value} (hg : w.heap[g]? = some (.cells arr t (0, 0))) (hl : cs.length = n * 2) (h : ∀ (k : Nat) (v : Value), cs[k]? = some v → arr[k]? = some v) :
    ∀ w', Ext w w' → (Builtin.firstCells 2 n (.slice (some ⟨g, 0, none⟩) n cap)).run P w' = .ok cs.toArray w' := fun w' hx => by
  refine run_firstCells_some w' 2 n ⟨g, 0, none⟩ n cap cs hl (fun j v hj => ?_)
  have hgw : w'.heap[g]? = some (.cells arr t (0, 0)) := by rw [hx.below.block g (lt_of_heap hg)]; exact hg
  rw [Addr.add_lit]
  simp [World.cell?, hgw, h j v hj]
set_option maxHeartbeats 4000000 in
set_option maxRecDepth 1000000 in
theorem ins_end (xs : List TTable) (x : TTable) (base : Option Addr) (cap vb vc : Nat) (t2 : TypeId) (arr2 : Array Value) (L : List Nat) (w : World) (hl : xs.length ≤ 1000) (hn : xs.length ≤ cap) (hm : cap ≤ maxLen) (hb0 : base = none → cap = 0)
    (hv : w.heap[vb]? = some (.cells arr2 t2 (0, 0))) (hva : ∀ (k : Nat) (v : Value), (tbC [x])[k]? = some v → arr2[k]? = some v)
    (hrow : cap ≠ 0 → ∃ g arr t, base = some ⟨g, 0, none⟩ ∧ L = [g] ∧ w.heap[g]? = some (.cells arr t (0, 0)) ∧ cap * 2 ≤ arr.size ∧ (∀ (k : Nat) (v : Value), (tbC xs)[k]? = some v → arr[k]? = some v)) :
    Calls Tryd.prog 32 #[.slice base xs.length cap, .int .i64 xs.length, .slice (some ⟨vb, 0, none⟩) 1 vc] w (InsQ w L (xs ++ [x])) := by
  obtain ⟨i0, hi, hz0, hz1, hz2⟩ := info_parts (show (Tryd.prog.info? 35).map (fun i => (i.zero, i.size, i.bytes)) = some (some (.agg #[.string .empty, .string .empty]), 2, 32) by kernel_rfl)
  have hra := run_app_sl (P := Tryd.prog) (w := w) (t := 24) (tx := 24) (ty := 24) (base := base) (sLen := xs.length) (sCap := cap) (x := .slice (some ⟨vb, 0, none⟩) 1 vc) (k := 1) (olds := tbC xs) (news := tbC [x]) Tryd.underlying24 Tryd.underlying24 hi hz0 (fun _ => rfl)
    (by rw [hz1]; exact first_cells hv rfl hva) (by rw [hz1]; rfl) (tbC_one _) (by
      rw [hz1]
      rcases Nat.eq_zero_or_pos cap with hc | hc
      · have h0 : xs = [] := List.eq_nil_of_length_eq_zero (by omega)
        subst h0
        intro w' _
        exact run_first0 _ _ _
      · obtain ⟨g, arr, t, rfl, -, hg, -, h⟩ := hrow (by omega)
        exact first_cells hg (by rw [tbC_len]; omega) h) (by rw [hz1, tbC_len]; omega) hb0 (by unfold maxLen; omega) (by rw [hz2]; omega)
    (fun hc => by
      obtain ⟨g, arr, t, e, -, hg, hs, -⟩ := hrow hc
      exact ⟨g, arr, t, e, hg, by rw [hz1]; exact hs⟩) hn
  have hrun : ∃ v w2, (Builtin.append_ #[24, 24] 24 #[.slice base xs.length cap, .slice (some ⟨vb, 0, none⟩) 1 vc]).run Tryd.prog w = .ok v w2 ∧ InsQ w L (xs ++ [x]) (.returned v) w2 := by
    have hly : (xs ++ [x]).length = xs.length + 1 := by simp
    have happ : tbC (xs ++ [x]) = tbC xs ++ tbC [x] := tbC_app _ _
    have lx : (tbC xs).length = 2 * xs.length := tbC_len _
    have l1 : (tbC [x]).length = 2 := rfl
    rcases hra with ⟨h1, cap', q1, q2, rest, q3, q4⟩ | ⟨h1, h2, _⟩ | ⟨h1, h2, g, arr, t, e, hg, hs, q⟩
    · refine ⟨_, _, q4, w.heap.size, cap', _, _, by rw [hly], by omega, q2, heap_new w.drew _, ?_, fun k v hk => ?_, rfl, rfl, rfl, by simp [World.alloc], fun y hy _ => heap_alloc_old w.drew _ hy, by simp, fun y hy => ?_, fun y hy => ?_⟩
      · have : (Value.agg #[.string .empty, .string .empty]).cells.size = 2 := rfl
        rw [this] at q3
        simp only [List.size_toArray, List.length_append, lx, l1, q3]
        omega
      · rw [happ] at hk
        have hlt := (List.getElem?_eq_some_iff.1 hk).1
        simp only [List.getElem?_toArray]
        rw [List.getElem?_append_left hlt]; exact hk
      · right; simp at hy; omega
      · simp at hy; subst hy; exact lt_of_heap (heap_new w.drew _)
    · omega
    · obtain ⟨g', arr', t', e', hL, hg', -, hel⟩ := hrow h2
      rw [e] at e'
      cases e'
      rw [hg] at hg'
      cases hg'
      rw [hz1] at hs q
      have hxz : (⟨xs⟩ : Array TTable).size = xs.length := rfl
      have hal : arr.toList.length = arr.size := Array.length_toList
      refine ⟨_, _, q, g, cap, t, _, by rw [hly, e], by omega, hm, setRow_at hg _, ?_, fun k v hk => ?_, rfl, rfl, rfl, by rw [setRow_size]; exact Nat.le_refl _, fun y hy hm => ?_, by simp, fun y hy => ?_, fun y hy => ?_⟩
      · simp only [List.size_toArray, List.length_append, List.length_take, List.length_drop, Array.length_toList, l1]
        omega
      · rw [happ] at hk
        simp only [List.getElem?_toArray]
        rw [List.getElem?_append] at hk
        split at hk
        · rename_i hk1
          rw [List.append_assoc, List.getElem?_append_left (by rw [List.length_take, Array.length_toList]; omega), List.getElem?_take, if_pos (by omega), Array.getElem?_toList]
          exact hel k v hk
        · rename_i hk1
          have hlt := (List.getElem?_eq_some_iff.1 hk).1
          rw [List.append_assoc, List.getElem?_append_right (by rw [List.length_take, Array.length_toList]; omega), List.getElem?_append_left (by rw [List.length_take, Array.length_toList]; omega)]
          rw [← hk]
          congr 1
          rw [List.length_take, Array.length_toList]; omega
      · rw [hL] at hm
        exact setRow_other (by simpa using hm) _
      · simp at hy; left; rw [hL]; simp [hy]
      · simp at hy; subst hy; rw [setRow_size]; exact lt_of_heap hg
  obtain ⟨v, w2, hr, hQ⟩ := hrun
  clear hra hrow
  go_enter Tryd.func32, Tryd.ntmps32
  go_wp2_with (at_builtin; refine Lib.wpList_append_run _ rfl _ _ _ _ rfl _ _ rfl rfl _ _ hr ?_)
  all_goals (go_ret; exact hQ)
open Go.RowKit Go.Shelf Go.Lib
theorem run_copy_two {P : Program} (w : World) (dT sT ty elem : TypeId) (b o dLen dCap : Nat) (a : Addr) (sLen sCap k : Nat) (cs : List Value)
    (hu : P.underlying dT = some (.slice elem)) (hs : (P.info? elem).map (·.size) = some 2) (hk : Nat.min sLen dLen = k) (hn : cs.length = k * 2)
    (hsrc : ∀ j v, cs[j]? = some v → w.cell? (a.add j) = some v) (hc : ∀ j, j < cs.length → (w.cell? ⟨b, o + j, none⟩).isSome = true) (hf : ∀ j, j < cs.length → w.frozen? ⟨b, o + j, none⟩ = false) (h1 : ∀ v ∈ cs, v.oneCell' = true) :
    (Builtin.copy_ #[dT, sT] ty #[.slice (some ⟨b, o, none⟩) dLen dCap, .slice (some a) sLen sCap]).run P w = .ok (goInt k) (w.setCells b o cs) := by
  have hl := run_loadCells_list (P := P) w a cs hsrc
  have hst := run_storeCells_cells (P := P) b o cs 0 w (by simpa using hc) (by simpa using hf) h1
  cases hq : P.info? elem with
  | none => simp [hq] at hs
  | some i =>
    have hi : i.size = 2 := by simpa [hq] using hs
    simp [Builtin.copy_, run_underlying hu, Builtin.lenOf, Builtin.firstCells, sizeOf, typeInfo, hq, hi, hk, ← hn, hl, hst]
def insL (i : Nat) (x : TTable) (xs : List TTable) : List TTable := xs.take i ++ x :: xs.drop i
theorem insL_len {i : Nat} {x : TTable} {xs : List TTable} (h : i ≤ xs.length) : (insL i x xs).length = xs.length + 1 := by simp [insL]; omega
theorem tbC_drop : ∀ (xs : List TTable) (j : Nat), (tbC xs).drop (j * 2) = tbC (xs.drop j) := by
  intro xs
  induction xs with
  | nil => intro j; simp [tbC]
  | cons x t ih =>
    intro j
    cases j with
    | zero => simp
    | succ j =>
      rw [show (j + 1) * 2 = j * 2 + 1 + 1 by omega, tbC, List.drop_succ_cons, List.drop_succ_cons, List.drop_succ_cons]
      exact ih j
theorem tbC_ins (i : Nat) (x : TTable) (xs : List TTable) : tbC (insL i x xs) = (tbC xs).take (i * 2) ++ (tbC [x] ++ (tbC xs).drop (i * 2)) := by
  rw [insL, tbC_app, tbC_take, tbC_drop]; rfl
set_option maxHeartbeats 4000000 in
set_option maxRecDepth 1000000 in
theorem ins_room (xs : List TTable) (x : TTable) (i g cap vb vc : Nat) (t t2 : TypeId) (arr arr2 : Array Value) (w : World) (hi : i < xs.length) (hl : xs.length ≤ 1000) (hroom : xs.length + 1 ≤ cap) (hm : cap ≤ maxLen)
    (hg : w.heap[g]? = some (.cells arr t (0, 0))) (hcap : cap * 2 ≤ arr.size) (hel : ∀ (k : Nat) (v : Value), (tbC xs)[k]? = some v → arr[k]? = some v)
    (hv : w.heap[vb]? = some (.cells arr2 t2 (0, 0))) (hva : ∀ (k : Nat) (v : Value), (tbC [x])[k]? = some v → arr2[k]? = some v) (hne : vb ≠ g) :
    Calls Tryd.prog 32 #[.slice (some ⟨g, 0, none⟩) xs.length cap, .int .i64 i, .slice (some ⟨vb, 0, none⟩) 1 vc] w (InsQ w [g] (insL i x xs)) := by
  obtain ⟨i0, hi0, hz0, hzs, hzb⟩ := info_parts (show (Tryd.prog.info? 35).map (fun i => (i.zero, i.size, i.bytes)) = some (some (.agg #[.string .empty, .string .empty]), 2, 32) by kernel_rfl)
  have hsz : (Tryd.prog.info? 35).map (·.size) = some 2 := by rw [hi0]; simp [hzs]
  have lx : (tbC xs).length = 2 * xs.length := tbC_len _
  have l1 : (tbC [x]).length = 2 := rfl
  have ld : ((tbC xs).drop (i * 2)).length = (xs.length - i) * 2 := by rw [List.length_drop, lx]; omega
  have hgd : w.drew.heap[g]? = some (.cells arr t (0, 0)) := hg
  have hsz0 : ∀ w, (Go.sizeOf 35).run Tryd.prog w = .ok 2 w := fun w => by simp [sizeOf, typeInfo, hi0, hzs]
  have hov : ∀ lb cb, (callFunc 52 #[.slice (some ⟨vb, 0, none⟩) 1 vc, .slice (some ⟨g, (i + 1) * 2, none⟩) lb cb]).run Tryd.prog w = .ok (.value (.bool false)) w := fun lb cb => by
    rw [run_callFunc_extern Tryd.func52 (by kernel_rfl) (by kernel_rfl) (by kernel_rfl) (e := Extern.SlicesOverlaps.overlaps #[24, 24] #[4]) (by kernel_rfl),
      Lib.run_overlaps_apart w 24 4 35 Tryd.underlying24 2 hsz0 ⟨vb, 0, none⟩ ⟨g, (i + 1) * 2, none⟩ 1 vc lb cb hne t2 t arr2.size arr.size (by simp [World.shape?, hv]) (by simp [World.shape?, hg]) (by omega) (by simp [World.frozen?, hv]) (by simp [World.frozen?, hv])]
    rfl
  have hcp1 : ∀ ty dc sc, (Builtin.copy_ #[24, 24] ty #[.slice (some ⟨g, (i + 1) * 2, none⟩) (xs.length - i) dc, .slice (some ⟨g, i * 2, none⟩) (xs.length + 1 - i) sc]).run Tryd.prog w.drew = .ok (goInt ((xs.length - i : Nat) : Int)) (w.drew.setCells g ((i + 1) * 2) ((tbC xs).drop (i * 2))) := fun ty dc sc =>
    run_copy_two w.drew 24 24 ty 35 g ((i + 1) * 2) (xs.length - i) dc ⟨g, i * 2, none⟩ (xs.length + 1 - i) sc (xs.length - i) _ Tryd.underlying24 hsz (by simp only [Nat.min_def]; split <;> omega) ld
      (fun j v hj => by
        rw [List.getElem?_drop] at hj
        have := hel _ v hj
        rw [Addr.add_lit]
        simp [World.cell?, hgd, this])
      (fun j hj => by rw [ld] at hj; simp [World.cell?, hgd, show (i + 1) * 2 + j < arr.size by omega]) (fun j hj => by simp [World.frozen?, hgd]) (fun v hv => tbC_one _ v (List.mem_of_mem_drop hv))
  obtain ⟨W1, hW1⟩ : ∃ W1, W1 = w.drew.setCells g ((i + 1) * 2) ((tbC xs).drop (i * 2)) := ⟨_, rfl⟩
  obtain ⟨a1, e1, e2, e3, e4, e5, e6, e7, e8, e9⟩ := setCells_arr ((tbC xs).drop (i * 2)) w.drew g ((i + 1) * 2) arr hgd (by rw [ld]; omega)
  rw [← hW1] at e1 e5 e6 e7 e8 e9
  have hv1 : W1.heap[vb]? = some (.cells arr2 t2 (0, 0)) := by rw [e5 vb hne]; exact hv
  have hcp2 : ∀ (W : World), (∀ x, W.cell? x = W1.cell? x) → (∀ x, W.frozen? x = W1.frozen? x) → ∀ ty dc, (Builtin.copy_ #[24, 24] ty #[.slice (some ⟨g, i * 2, none⟩) (xs.length + 1 - i) dc, .slice (some ⟨vb, 0, none⟩) 1 vc]).run Tryd.prog W = .ok (goInt 1) (W.setCells g (i * 2) (tbC [x])) := fun W hWc hWf ty dc =>
    run_copy_two W 24 24 ty 35 g (i * 2) (xs.length + 1 - i) dc ⟨vb, 0, none⟩ 1 vc 1 (tbC [x]) Tryd.underlying24 hsz (by simp only [Nat.min_def]; split <;> omega) rfl
      (fun j v hj => by
        have := hva _ v hj
        rw [hWc, Addr.add_lit]
        simp [World.cell?, hv1, this])
      (fun j hj => by rw [l1] at hj; rw [hWc]; simp [World.cell?, e1, show i * 2 + j < a1.size by omega]) (fun j hj => by rw [hWf]; simp [World.frozen?, e1]) (tbC_one _)
  obtain ⟨a2, f1, f2, f3, f4, f5, f6, f7, f8, f9⟩ := setCells_arr (tbC [x]) W1 g (i * 2) a1 e1 (by rw [l1]; omega)
  have hQ : InsQ w [g] (insL i x xs) (.returned (.slice (some ⟨g, 0, none⟩) (xs.length + 1) cap)) (W1.setCells g (i * 2) (tbC [x])) := by
    have hly := insL_len (x := x) (Nat.le_of_lt hi)
    have hlt := lt_of_heap hg
    refine ⟨g, cap, t, a2, by rw [hly], by omega, hm, f1, by omega, fun k v hk => ?_, by rw [f7, e7]; rfl, by rw [f8, e8]; rfl, by rw [f9, e9]; rfl, by rw [f6, e6]; exact Nat.le_refl _, fun y hy hm => ?_, by simp, fun y hy => .inl hy, fun y hy => ?_⟩
    · rw [tbC_ins, List.getElem?_append] at hk
      have lt' : ((tbC xs).take (i * 2)).length = i * 2 := by rw [List.length_take, lx]; omega
      rw [lt'] at hk
      split at hk
      · rename_i hk1
        rw [f4 k (.inl hk1), e4 k (.inl (by omega))]
        rw [List.getElem?_take, if_pos hk1] at hk
        exact hel k v hk
      · rename_i hk1
        rw [List.getElem?_append, l1] at hk
        split at hk
        · rename_i hk2
          rw [f3 k (by omega) (by rw [l1]; omega)]; exact hk
        · rename_i hk2
          have hlt2 := (List.getElem?_eq_some_iff.1 hk).1
          rw [ld] at hlt2
          rw [f4 k (.inr (by rw [l1]; omega)), e3 k (by omega) (by rw [ld]; omega)]
          rw [← hk]; congr 1; omega
    · have hy2 : y ≠ g := by simpa using hm
      rw [f5 y hy2, e5 y hy2]; rfl
    · simp at hy; subst hy; rw [f6, e6]; exact hlt
  have mixed : Tryd.prog.follows .mixedOrders = true := by kernel_rfl
  have hz2 : ¬ ((i : Int) = (xs.length : Int)) := by omega
  have hw1 : IntKind.i64.wrap ((i : Int) + 1) = (i : Int) + 1 := by rw [IntKind.wrap_i64]; omega
  have hin : i ≤ xs.length := by omega
  have hb1 : (0 : Int) ≤ (i : Int) + 1 := by omega
  have hb3 : (i : Int) ≤ (xs.length : Int) + 1 := by omega
  have htn : ((i : Int) + 1).toNat = i + 1 := by omega
  have hb2 : ¬ (cap = i + 1) := by omega
  have hb4 : ¬ (cap = i) := by omega
  rw [← hW1] at hcp1
  clear e1 e2 e3 e4 e5 e6 e7 e8 e9 f1 f2 f3 f4 f5 f6 f7 f8 f9 hel hva hv1 hW1 lx l1 ld hsz0 hg hgd hv
  go_enter Tryd.func32, Tryd.ntmps32
  go_wp2_with (simp only [hov])
  go_region_law_o (refine step_copy_runI rfl _ _ 24 24 rfl _ _ (by simp [Act.eval, Act.put]) (by simp [Act.eval, Act.put]) (hcp1 _ _ _) ?_)
  go_wp2_with (at_builtin; refine wpList_copy_runI _ rfl _ _ 24 24 rfl _ _ rfl rfl (hcp2 _ (fun _ => rfl) (fun _ => rfl) _ _) ?_)
  go_ret
  exact hQ
open Go.RowKit Go.Shelf Go.Lib
set_option maxHeartbeats 4000000 in
set_option maxRecDepth 1000000 in
theorem ins_grow (xs : List TTable) (x : TTable) (i g cap vb vc : Nat) (t t2 : TypeId) (arr arr2 : Array Value) (w : World) (hi : i < xs.length) (hl : xs.length ≤ 1000) (hn : xs.length ≤ cap) (hroom : cap < xs.length + 1)
    (hg : w.heap[g]? = some (.cells arr t (0, 0))) (hcap : cap * 2 ≤ arr.size) (hel : ∀ (k : Nat) (v : Value), (tbC xs)[k]? = some v → arr[k]? = some v)
    (hv : w.heap[vb]? = some (.cells arr2 t2 (0, 0))) (hva : ∀ (k : Nat) (v : Value), (tbC [x])[k]? = some v → arr2[k]? = some v) :
    Calls Tryd.prog 32 #[.slice (some ⟨g, 0, none⟩) xs.length cap, .int .i64 i, .slice (some ⟨vb, 0, none⟩) 1 vc] w (InsQ w [g] (insL i x xs)) := by
  obtain ⟨i0, hi0, hz0, hzs, hzb⟩ := info_parts (show (Tryd.prog.info? 35).map (fun i => (i.zero, i.size, i.bytes)) = some (some (.agg #[.string .empty, .string .empty]), 2, 32) by kernel_rfl)
  have hsz : (Tryd.prog.info? 35).map (·.size) = some 2 := by rw [hi0]; simp [hzs]
  have lx : (tbC xs).length = 2 * xs.length := tbC_len _
  have l1 : (tbC [x]).length = 2 := rfl
  have ld : ((tbC xs).drop (i * 2)).length = (xs.length - i) * 2 := by rw [List.length_drop, lx]; omega
  have lt' : ((tbC xs).take (i * 2)).length = i * 2 := by rw [List.length_take, lx]; omega
  have hgw := lt_of_heap hg
  have hvw := lt_of_heap hv
  have hik : i + (xs.length + 1 - i) = xs.length + 1 := by omega
  have hkk : (xs.length : Int) + 1 - (i : Int) = ((xs.length + 1 - i : Nat) : Int) := by omega
  have hold : (Builtin.firstCells i0.size i (.slice (some ⟨g, 0, none⟩) i cap)).run Tryd.prog w.drew = .ok ((tbC xs).take (i * 2)).toArray w.drew := by
    rw [hzs]
    exact first_cells (n := i) hg lt' (fun k v hk => by
      rw [List.getElem?_take] at hk
      split at hk
      · exact hel k v hk
      · cases hk) w.drew (Ext.refl w).drew
  have hrz : ∀ ty, (Builtin.append_ #[24, 3] ty #[.slice (some ⟨g, 0, none⟩) i cap, .int .i64 ((xs.length : Int) + 1 - (i : Int))]).run Tryd.prog w =
      .ok (.slice (some ⟨w.heap.size, 0, none⟩) (xs.length + 1) (grownCap w (xs.length + 1) cap 35)) (w.drew.alloc (.cells (((tbC xs).take (i * 2)).toArray ++ Builtin.zeroCells #[.string .empty, .string .empty] (xs.length + 1 - i) ++ Builtin.zeroCells #[.string .empty, .string .empty] (grownCap w (xs.length + 1) cap 35 - (xs.length + 1))) 35)) := fun ty => by
    have h := Lib.run_append_grow_zeros w 24 3 ty 35 i0 _ .i64 .i64 Tryd.underlying24 Tryd.underlying3 hi0 hz0 (some ⟨g, 0, none⟩) i cap ((tbC xs).take (i * 2)) hold (xs.length + 1 - i) (by omega) (by omega) (by omega) (by omega) (by rw [hzb]; omega) (by rw [hzb, hik]; exact growslice_fits hroom (by omega))
    rw [hik] at h
    rw [hkk]
    exact h
  obtain ⟨G, hG⟩ : ∃ G, G = grownCap w (xs.length + 1) cap 35 := ⟨_, rfl⟩
  have hGn : xs.length + 1 ≤ G := by rw [hG]; exact grownCap_ge w _ _ _
  have hG63 : G ≤ maxLen := by rw [hG]; exact grownCap_le_maxLen w (xs.length + 1) cap _ (by unfold maxLen; omega)
  rw [← hG] at hrz
  obtain ⟨ROW, hROW⟩ : ∃ ROW : Array Value, ROW = ((tbC xs).take (i * 2)).toArray ++ Builtin.zeroCells #[.string .empty, .string .empty] (xs.length + 1 - i) ++ Builtin.zeroCells #[.string .empty, .string .empty] (G - (xs.length + 1)) := ⟨_, rfl⟩
  rw [← hROW] at hrz
  have hRl : ROW.size = G * 2 := by
    rw [hROW]
    have h2 : (#[Value.string .empty, .string .empty] : Array Value).size = 2 := rfl
    simp only [Array.size_append, List.size_toArray, lt', Builtin.zeroCells, Array.size_map, Array.size_range, h2]
    omega
  have hRt : ∀ (k : Nat), k < i * 2 → ROW[k]? = (tbC xs)[k]? := fun k hk => by
    rw [hROW, Array.append_assoc, Array.getElem?_append_left (by simp only [List.size_toArray, lt']; exact hk), List.getElem?_toArray, List.getElem?_take, if_pos hk]
  obtain ⟨W1, hW1⟩ : ∃ W1, W1 = w.drew.alloc (.cells ROW 35) := ⟨_, rfl⟩
  rw [← hW1] at hrz
  have hN : W1.heap[w.heap.size]? = some (.cells ROW 35 (0, 0)) := by rw [hW1]; exact heap_new w.drew _
  have hO : ∀ y, y < w.heap.size → W1.heap[y]? = w.heap[y]? := fun y hy => by rw [hW1]; exact heap_alloc_old w.drew _ hy
  have hS : W1.heap.size = w.heap.size + 1 := by rw [hW1]; simp [World.alloc]
  have hv1 : W1.heap[vb]? = some (.cells arr2 t2 (0, 0)) := by rw [hO vb hvw]; exact hv
  have hg1 : W1.heap[g]? = some (.cells arr t (0, 0)) := by rw [hO g hgw]; exact hg
  have hcpA : ∀ (W : World), (∀ x, W.cell? x = W1.cell? x) → (∀ x, W.frozen? x = W1.frozen? x) → ∀ ty dc, (Builtin.copy_ #[24, 24] ty #[.slice (some ⟨w.heap.size, i * 2, none⟩) (xs.length + 1 - i) dc, .slice (some ⟨vb, 0, none⟩) 1 vc]).run Tryd.prog W = .ok (goInt 1) (W.setCells w.heap.size (i * 2) (tbC [x])) := fun W hWc hWf ty dc =>
    run_copy_two W 24 24 ty 35 w.heap.size (i * 2) (xs.length + 1 - i) dc ⟨vb, 0, none⟩ 1 vc 1 (tbC [x]) Tryd.underlying24 hsz (by simp only [Nat.min_def]; split <;> omega) rfl
      (fun j v hj => by
        have := hva _ v hj
        rw [hWc, Addr.add_lit]
        simp [World.cell?, hv1, this])
      (fun j hj => by rw [l1] at hj; rw [hWc]; simp [World.cell?, hN, show i * 2 + j < ROW.size by omega]) (fun j hj => by rw [hWf]; simp [World.frozen?, hN]) (tbC_one _)
  obtain ⟨a1, e1, e2, e3, e4, e5, e6, e7, e8, e9⟩ := setCells_arr (tbC [x]) W1 w.heap.size (i * 2) ROW hN (by rw [l1]; omega)
  have hg2 : (W1.setCells w.heap.size (i * 2) (tbC [x])).heap[g]? = some (.cells arr t (0, 0)) := by rw [e5 g (by omega)]; exact hg1
  have hcpB : ∀ (W : World), (∀ y, W.cell? y = (W1.setCells w.heap.size (i * 2) (tbC [x])).cell? y) → (∀ y, W.frozen? y = (W1.setCells w.heap.size (i * 2) (tbC [x])).frozen? y) → ∀ ty dc sc, (Builtin.copy_ #[24, 24] ty #[.slice (some ⟨w.heap.size, (i + 1) * 2, none⟩) (xs.length - i) dc, .slice (some ⟨g, i * 2, none⟩) (xs.length - i) sc]).run Tryd.prog W = .ok (goInt ((xs.length - i : Nat) : Int)) (W.setCells w.heap.size ((i + 1) * 2) ((tbC xs).drop (i * 2))) := fun W hWc hWf ty dc sc =>
    run_copy_two W 24 24 ty 35 w.heap.size ((i + 1) * 2) (xs.length - i) dc ⟨g, i * 2, none⟩ (xs.length - i) sc (xs.length - i) _ Tryd.underlying24 hsz (by simp) ld
      (fun j v hj => by
        rw [List.getElem?_drop] at hj
        have := hel _ v hj
        rw [hWc, Addr.add_lit]
        simp [World.cell?, hg2, this])
      (fun j hj => by rw [ld] at hj; rw [hWc]; simp [World.cell?, e1, show (i + 1) * 2 + j < a1.size by omega]) (fun j hj => by rw [hWf]; simp [World.frozen?, e1]) (fun v hv => tbC_one _ v (List.mem_of_mem_drop hv))
  obtain ⟨a2, f1, f2, f3, f4, f5, f6, f7, f8, f9⟩ := setCells_arr ((tbC xs).drop (i * 2)) (W1.setCells w.heap.size (i * 2) (tbC [x])) w.heap.size ((i + 1) * 2) a1 e1 (by rw [ld]; omega)
  have hQ : InsQ w [g] (insL i x xs) (.returned (.slice (some ⟨w.heap.size, 0, none⟩) (xs.length + 1) G)) ((W1.setCells w.heap.size (i * 2) (tbC [x])).setCells w.heap.size ((i + 1) * 2) ((tbC xs).drop (i * 2))) := by
    have hly := insL_len (x := x) (Nat.le_of_lt hi)
    refine ⟨w.heap.size, G, _, a2, by rw [hly], by omega, hG63, f1, by omega, fun k v hk => ?_, by rw [f7, e7, hW1]; rfl, by rw [f8, e8, hW1]; rfl, by rw [f9, e9, hW1]; rfl, by rw [f6, e6, hS]; omega, fun y hy hm => ?_, by simp, fun y hy => ?_, fun y hy => ?_⟩
    · rw [tbC_ins, List.getElem?_append, lt'] at hk
      split at hk
      · rename_i hk1
        rw [f4 k (.inl (by omega)), e4 k (.inl hk1), hRt k hk1]
        rw [List.getElem?_take, if_pos hk1] at hk
        exact hk
      · rename_i hk1
        rw [List.getElem?_append, l1] at hk
        split at hk
        · rename_i hk2
          rw [f4 k (.inl (by omega)), e3 k (by omega) (by rw [l1]; omega)]; exact hk
        · rename_i hk2
          have hlt2 := (List.getElem?_eq_some_iff.1 hk).1
          rw [ld] at hlt2
          rw [f3 k (by omega) (by rw [ld]; omega)]
          rw [← hk]; congr 1; omega
    · rw [f5 y (by omega), e5 y (by omega), hO y hy]
    · simp at hy; right; omega
    · simp at hy; subst hy; rw [f6, e6, hS]; omega
  have mixed : Tryd.prog.follows .mixedOrders = true := by kernel_rfl
  have hz2 : ¬ ((i : Int) = (xs.length : Int)) := by omega
  have hz3 : (cap : Int) < (xs.length : Int) + 1 := by omega
  have hw1 : IntKind.i64.wrap ((i : Int) + 1) = (i : Int) + 1 := by rw [IntKind.wrap_i64]; omega
  have hin : i ≤ xs.length := by omega
  have hb1 : (0 : Int) ≤ (i : Int) + 1 := by omega
  have hb3 : (i : Int) ≤ (xs.length : Int) := by omega
  have htn : ((i : Int) + 1).toNat = i + 1 := by omega
  have hGi : ¬ (G = i) := by omega
  have hGim : ¬ (G = i + 1) := by omega
  have hci : ¬ (cap = i) := by omega
  subst hW1
  have hE1 : ∀ y, ((w.alloc (.cells ROW 35)).drew).cell? y = (w.drew.alloc (.cells ROW 35)).cell? y := fun y => rfl
  have hE2 : ∀ y, ((w.alloc (.cells ROW 35)).drew).frozen? y = (w.drew.alloc (.cells ROW 35)).frozen? y := fun y => rfl
  have hF1 : ∀ y, (((w.alloc (.cells ROW 35)).drew.setCells w.heap.size (i * 2) (tbC [x])).drew).cell? y = ((w.drew.alloc (.cells ROW 35)).setCells w.heap.size (i * 2) (tbC [x])).cell? y := fun y => rfl
  have hF2 : ∀ y, (((w.alloc (.cells ROW 35)).drew.setCells w.heap.size (i * 2) (tbC [x])).drew).frozen? y = ((w.drew.alloc (.cells ROW 35)).setCells w.heap.size (i * 2) (tbC [x])).frozen? y := fun y => rfl
  have hQ' : InsQ w [g] (insL i x xs) (.returned (.slice (some ⟨w.heap.size, 0, none⟩) (xs.length + 1) G)) ((((w.alloc (.cells ROW 35)).drew.setCells w.heap.size (i * 2) (tbC [x])).drew).setCells w.heap.size ((i + 1) * 2) ((tbC xs).drop (i * 2))) := by
    rw [drew_setCells, ← drew_setCells w.heap.size (tbC [x]), ← drew_setCells]
    obtain ⟨g', cap', t', arr', q1, q2, q3, q4, q5, q6, q7⟩ := hQ
    exact ⟨g', cap', t', arr', q1, q2, q3, q4, q5, q6, ⟨q7.os, q7.tape, q7.output, q7.size, q7.ch, q7.nd, q7.sub, q7.hi⟩⟩
  clear hQ
  clear hkk hik hold hROW hG hRl hRt hN hO hS hv1 hg1 hg2 e1 e2 e3 e4 e5 e6 e7 e8 e9 f1 f2 f3 f4 f5 f6 f7 f8 f9 hel hva lx l1 ld lt' hg hv hgw hvw
  go_enter Tryd.func32, Tryd.ntmps32
  go_wp2_with (first
    | (at_builtin; refine Lib.wpList_append_run _ rfl _ _ _ _ rfl _ _ rfl rfl _ _ (hrz _) ?_)
    | (at_builtin; refine wpList_copy_runI _ rfl _ _ 24 24 rfl _ _ rfl rfl (hcpA _ hE1 hE2 _ _) ?_))
  go_region_law_o (refine step_copy_runI rfl _ _ 24 24 rfl (.slice (some ⟨w.heap.size, (i + 1) * 2, none⟩) (xs.length - i) (G - (i + 1))) (.slice (some ⟨g, i * 2, none⟩) (xs.length - i) (cap - i)) (by simp [Act.eval, Act.put]) (by simp [Act.eval, Act.put]) (hcpB _ hF1 hF2 3 (G - (i + 1)) (cap - i)) ?_)
  go_wp2
  go_ret
  exact hQ'
open Go.RowKit Go.Shelf Go.Lib
theorem insL_end (x : TTable) (xs : List TTable) : insL xs.length x xs = xs ++ [x] := by simp [insL]
theorem Insert_m {xs : List TTable} {x : TTable} {i b c len : Nat} {e : Env} {h : List Blk} {K : V → Env → List Blk → Prop} (hi : i ≤ xs.length) (hl : xs.length ≤ 1000) (hlen : len = xs.length)
    (hb : h[b]? = some (.arr 2 (xs.map TTable.D) true)) (hc : h[c]? = some (.arr 2 [x.D] true)) (hb0 : 1 ≤ b) (hbc : b ≠ c)
    (H : K (.own b 0 (xs.length + 1)) (dropE [b] e) ((dropK [b] h).set b (.arr 2 ((insL i x xs).map TTable.D) true))) :
    CallM Tryd.prog 32 [.own b 0 len, .d (.int .i64 (i : Nat)), .own c 0 1] e h K where
  fn := ⟨_, Tryd.func32, rfl, rfl⟩
  run B X N M a w args R hargs := by
    subst hlen
    obtain ⟨c0, r0, rfl, p0, c1, r1, rfl, p1, c2, r2, rfl, p2, rfl⟩ := hargs
    obtain ⟨rfl, -⟩ := rep_int.1 (rep_of_rep1 p1)
    obtain ⟨ad, cap, rfl, k1, k2, k3, k4⟩ := rep_own.1 (rep_of_rep1 p0)
    obtain ⟨ad2, vc, rfl, j1, j2, j3, j4⟩ := rep_own.1 (rep_of_rep1 p2)
    have hn : nOf h b = 2 := by simp [nOf, hb]
    have hn2 : nOf h c = 2 := by simp [nOf, hc]
    rcases j4 with j4 | ⟨vb, F2, arr2, t2, m1, m2, m3, m4⟩
    · omega
    rw [Nat.zero_mul] at m2
    subst m2
    obtain ⟨arr0, t0, s1, s2, s3⟩ : ∃ arr t, w.heap[vb]? = some (.cells arr t (0, 0)) ∧ [x.D].length * 2 ≤ arr.size ∧ (if true = true then ownDe w arr 2 [x.D] 0 F2 else F2 = [] ∧ extDe M.O w arr 2 [x.D] 0) := R.inv.blk c _ _ hc m1
    rw [m3] at s1
    cases s1
    rw [if_pos rfl] at s3
    obtain ⟨-, hva, hsx⟩ := tab_cells [x] 0 F2 s3
    replace hva : ∀ (k : Nat) (v : Value), (tbC [x])[k]? = some v → arr2[k]? = some v := fun k v hk => by have := hva k v hk; rwa [Nat.zero_mul, Nat.zero_add] at this
    have hbl : b < h.length := (List.getElem?_eq_some_iff.1 hb).1
    obtain ⟨m0, hM⟩ := at_lt (xs := M) (k := b) (by rw [R.inv.len]; exact hbl)
    have hlo := R.inv.lo b _ _ hb hM rfl
    have hly := insL_len (x := x) hi
    have fin : ∀ (L : List Nat), (∀ z ∈ L, z ∈ mO m0) → (∀ y ∈ xs, y.fTag.size ≤ maxLen ∧ y.fData.size ≤ maxLen) → ∀ en w', InsQ w L (insL i x xs) en w' → ∃ v cv e' h' M', en = .returned cv ∧ K v e' h' ∧ Rep B X N M' e' h' a w' ∧ rep w' M' h' v cv := by
      rintro L hLs hsz en w' ⟨g', cap', t', arr', rfl, q1, q2, q3, q4, q5, q6⟩
      have hxB : Ext B w' := Below.trans R.ext ⟨q6.os, q6.tape, q6.output, q6.size, fun k hk => q6.ch k (Nat.lt_of_lt_of_le hk R.base) (fun hm => by
        have := hlo k (hLs k hm)
        omega)⟩
      have hnf : nOf ((dropK [b] h).set b (.arr 2 ((insL i x xs).map TTable.D) true)) b = 2 := by
        unfold nOf; rw [List.getElem?_set_self (by rw [dropK_len]; exact hbl)]
      obtain ⟨M', R', hM', _⟩ := R.reset (w' := w') hxB hM (by omega) hb (.inl rfl) [] [b] (by simp) (by simp) (by simp) (by simp) (m' := some (g', [])) q6.nd
        (fun z hz => (q6.sub z hz).imp (hLs z) (fun q => .inr q)) q6.hi q6.size (fun z hz hzm => q6.ch z hz (fun q => hzm (hLs z q))) (k' := .arr 2 ((insL i x xs).map TTable.D) true) rfl (fun q => absurd (by simp) q)
        (fun M' h' _ => ⟨arr', t', q3, by rw [List.length_map]; omega, by
          rw [if_pos rfl]
          refine cells_tab _ 0 (fun k v hk => by rw [Nat.zero_mul, Nat.zero_add]; exact q5 k v hk) (fun y hy => ?_)
          simp only [insL, List.mem_append, List.mem_cons] at hy
          rcases hy with hy | rfl | hy
          · exact hsz y (List.mem_of_mem_take hy)
          · exact hsx y (by simp)
          · exact hsz y (List.mem_of_mem_drop hy)⟩)
      refine ⟨.own b 0 (xs.length + 1), _, _, _, M', rfl, H, R', rep_own.2 ⟨_, cap', by rw [hly], by omega, q2, by simp, .inr ⟨g', [], arr', t', hM', ?_, q3, ?_⟩⟩⟩
      · rw [Nat.zero_mul]
      · rw [show nOf _ b = 2 from hnf]; omega
    rcases k4 with k4 | ⟨g, F, arr, t, n1, n2, n3, n4⟩
    · have h0 : xs = [] := List.eq_nil_of_length_eq_zero (by omega)
      subst h0
      obtain rfl : i = 0 := by simpa using hi
      subst k4
      have := ins_end [] x ad 0 vb vc t2 arr2 [] w (by simp) (by simp) (by simp) (fun _ => rfl) m3 hva (fun q => absurd rfl q)
      refine Calls.mono this ?_
      exact fin [] (by simp) (by simp)
    · rw [hM] at n1
      cases n1
      rw [Nat.zero_mul] at n2
      subst n2
      rw [hn, Nat.zero_add] at n4
      obtain ⟨arr0, t0, s1, s2, s3⟩ : ∃ arr t, w.heap[g]? = some (.cells arr t (0, 0)) ∧ (xs.map TTable.D).length * 2 ≤ arr.size ∧ (if true = true then ownDe w arr 2 (xs.map TTable.D) 0 F else F = [] ∧ extDe M.O w arr 2 (xs.map TTable.D) 0) := R.inv.blk b _ _ hb hM
      rw [n3] at s1
      cases s1
      rw [if_pos rfl] at s3
      obtain ⟨-, hel, hsz⟩ := tab_cells xs 0 F s3
      replace hel : ∀ (k : Nat) (v : Value), (tbC xs)[k]? = some v → arr[k]? = some v := fun k v hk => by have := hel k v hk; rwa [Nat.zero_mul, Nat.zero_add] at this
      have hne : vb ≠ g := fun q => by
        subst q
        exact hbc (O_block_inj R.inv m1 hM (x := vb) (by simp [mO]) (by simp [mO]))
      have hcall : Calls Tryd.prog 32 #[.slice (some ⟨g, 0, none⟩) xs.length cap, .int .i64 i, .slice (some ⟨vb, 0, none⟩) 1 vc] w (InsQ w [g] (insL i x xs)) := by
        rcases Nat.lt_or_ge i xs.length with hil | hil
        · rcases Nat.lt_or_ge cap (xs.length + 1) with hr | hr
          · exact ins_grow xs x i g cap vb vc t t2 arr arr2 w hil hl k1 hr n3 n4 hel m3 hva
          · exact ins_room xs x i g cap vb vc t t2 arr arr2 w hil hl hr k2 n3 n4 hel m3 hva hne
        · obtain rfl : i = xs.length := by omega
          rw [insL_end]
          exact ins_end xs x _ cap vb vc t2 arr2 [g] w hl k1 k2 (by simp) m3 hva (fun _ => ⟨g, arr, t, rfl, rfl, n3, n4, hel⟩)
      refine Calls.mono hcall ?_
      exact fin [g] (by simp [mO]) hsz
theorem cli_ {xs : List TTable} {x : TTable} {i b c len : Nat} {e : Env} {h : List Blk} {K : V → Env → List Blk → Prop} {Q : Prop} (hi : i ≤ xs.length) (hl : xs.length ≤ 1000) (H : Q) (hlen : len = xs.length := by (first | rfl | omega | (simp; done)))
    (hb : h[b]? = some (.arr 2 (xs.map TTable.D) true) := by rfl) (hc : h[c]? = some (.arr 2 [x.D] true) := by rfl) (hb0 : Nat.ble 1 b = true := by rfl) (hbc : Nat.beq b c = false := by rfl)
    (hk : Q → K (.own b 0 (xs.length + 1)) (dropE [b] e) ((dropK [b] h).set b (.arr 2 ((insL i x xs).map TTable.D) true)) := by (intro H; (conv => whnf); exact H)) :
    CallW Tryd.prog false 32 [.own b 0 len, .d (.int .i64 (i : Nat)), .own c 0 1] e h K :=
  ⟨.inr ⟨rfl, Insert_m hi hl hlen hb hc (Nat.le_of_ble_eq_true hb0) (fun q => by subst q; rw [show Nat.beq b b = true from Nat.beq_refl b] at hbc; cases hbc) (hk H)⟩⟩
def cmT (a b : ByteArray) : Int := Lib.compareBytes a.data.toList b.data.toList
theorem cmL_rng : ∀ (a b : List UInt8), -1 ≤ Lib.compareBytes a b ∧ Lib.compareBytes a b ≤ 1
  | [], [] => by simp [Lib.compareBytes]
  | [], _ :: _ => by simp [Lib.compareBytes]
  | _ :: _, [] => by simp [Lib.compareBytes]
  | a :: s, b :: t => by
    rw [Lib.compareBytes]
    split
    · omega
    · split
      · omega
      · exact cmL_rng s t
theorem cmL_less : ∀ (a b : List UInt8), Lib.compareBytes a b < 0 ↔ Op.bytesLess a b = true
  | [], [] => by simp [Lib.compareBytes, Op.bytesLess]
  | [], _ :: _ => by simp [Lib.compareBytes, Op.bytesLess]
  | _ :: _, [] => by simp [Lib.compareBytes, Op.bytesLess]
  | a :: s, b :: t => by
    rw [Lib.compareBytes, Op.bytesLess]
    by_cases h1 : a < b
    · simp [h1]
    · rw [if_neg h1]
      by_cases h2 : b < a
      · rw [if_pos h2]
        have : ¬ a = b := fun e => by subst e; exact h1 h2
        simp [h1, this]
      · rw [if_neg h2]
        have e : a = b := by
          have h1' : ¬ a.toNat < b.toNat := h1
          have h2' : ¬ b.toNat < a.toNat := h2
          exact UInt8.toNat.inj (by omega)
        subst e
        rw [cmL_less s t]
        simp [h1]
theorem cmL_eq : ∀ (a b : List UInt8), Lib.compareBytes a b = 0 ↔ a = b
  | [], [] => by simp [Lib.compareBytes]
  | [], _ :: _ => by simp [Lib.compareBytes]
  | _ :: _, [] => by simp [Lib.compareBytes]
  | a :: s, b :: t => by
    rw [Lib.compareBytes]
    split
    · rename_i h
      have : ¬ a = b := fun e => by subst e; exact absurd h (by show ¬ a.toNat < a.toNat; omega)
      simp [this]
    · rename_i h
      split
      · rename_i h2
        have : ¬ a = b := fun e => by subst e; exact h h2
        simp [this]
      · rename_i h2
        have e : a = b := by
          have h1' : ¬ a.toNat < b.toNat := h
          have h2' : ¬ b.toNat < a.toNat := h2
          exact UInt8.toNat.inj (by omega)
        subst e
        rw [cmL_eq s t]; simp
theorem less_trans : ∀ (a b c : List UInt8), Op.bytesLess a b = true → Op.bytesLess b c = true → Op.bytesLess a c = true
  | _, [], _, h, _ => by simp [Op.bytesLess] at h
  | _, _ :: _, [], _, h => by simp [Op.bytesLess] at h
  | [], _ :: _, _ :: _, _, _ => by simp [Op.bytesLess]
  | a :: s, b :: t, c :: u, h1, h2 => by
    simp only [Op.bytesLess, Bool.or_eq_true, Bool.and_eq_true, decide_eq_true_eq, beq_iff_eq] at h1 h2 ⊢
    rcases h1 with h1 | ⟨rfl, h1⟩
    · rcases h2 with h2 | ⟨rfl, h2⟩
      · left
        have h1' : a.toNat < b.toNat := h1
        have h2' : b.toNat < c.toNat := h2
        show a.toNat < c.toNat
        omega
      · exact .inl h1
    · rcases h2 with h2 | ⟨rfl, h2⟩
      · exact .inl h2
      · exact .inr ⟨rfl, less_trans s t u h1 h2⟩
theorem Compare_v (a b : ByteArray) : PC Tryd.prog 31 [.d (.str a), .d (.str b)] (.d (.int .i64 (cmT a b))) [] :=
  PC.of Tryd.func31 rfl rfl fun w X args h => by
    obtain ⟨c1, r1, rfl, q1, c2, r2, rfl, q2, rfl⟩ := h
    obtain ⟨rfl, -⟩ := rep_str.1 (rep_of_rep1 q1)
    obtain ⟨rfl, -⟩ := rep_str.1 (rep_of_rep1 q2)
    refine (Tryd.strings_Compare a b w).mono ?_
    rintro e w' ⟨rfl, rfl⟩
    have hr := cmL_rng a.data.toList b.data.toList
    have h1 : inR .i64 (Lib.compareBytes a.data.toList b.data.toList) := by
      unfold inR
      simp only [IntKind.min, IntKind.max, IntKind.bits, IntKind.signed, if_true]
      omega
    exact ⟨_, rfl, Ext.refl _, rep_int.2 ⟨rfl, h1⟩⟩
theorem setCmp_v (x : TTable) (s : ByteArray) : PC Tryd.prog 30 [.d x.D, .d (.str s)] (.d (.int .i64 (cmT x.fTag s))) [] := by
  have c1 := Compare_v x.fTag s
  refine pc_intro ttOk (by kernel_rfl) Tryd.func30 rfl (by kernel_rfl) (by kernel_rfl) (by kernel_rfl) (fun hw => ?_)
  (conv => whnf)
  (repeat' (first | (refine stg_ ?_) | (refine cla_ (c1) ?_) | (refine br_ (fun hbr => ?_) (fun hbr => ?_))))
  (refine RetOK.d rfl rfl ?_; conv => whnf)
theorem bsf_v (xs : List TTable) (s : ByteArray) (i0 : Nat) (hl : xs.length ≤ 1000) (h0 : i0 ≤ xs.length) (h1 : ∀ (t : Nat) (x : TTable), t < i0 → xs[t]? = some x → cmT x.fTag s < 0) (h2 : ∀ (t : Nat) (x : TTable), i0 ≤ t → xs[t]? = some x → ¬ cmT x.fTag s < 0)
    (fd : Bool) (hf1 : ∀ x, xs[i0]? = some x → fd = decide (cmT x.fTag s = 0)) (hf2 : xs.length ≤ i0 → fd = false) :
    PC Tryd.prog 29 [.d (.lst (xs.map TTable.D)), .d (.str s), .fn (.func 30) []] (.tup [.d (.int .i64 (i0 : Nat)), .d (.bool fd)]) [] := by
  have hL : (xs.map TTable.D).length = xs.length := List.length_map _
  have c1 := fun x => setCmp_v x s
  refine pc_intro ttOk (by kernel_rfl) Tryd.func29 rfl (by kernel_rfl) (by kernel_rfl) (by kernel_rfl) (fun hw => ?_)
  (conv => whnf)
  (repeat' (first | (refine stg_ ?_) | fail | (refine br_ (fun hbr => ?_) (fun hbr => ?_))))
  refine LoopW.go (α := Nat × Nat) (fun p => [(0, .d (.lst (xs.map TTable.D))), (1, .d (.str s)), (2, .fn (.func 30) []), (8, .d (.int .i64 xs.length)), (9, .d (.int .i64 (p.1 : Nat))), (10, .d (.int .i64 (p.2 : Nat)))]) (fun _ => [.gone])
    (fun p => p.1 ≤ i0 ∧ i0 ≤ p.2 ∧ p.2 ≤ xs.length) (fun p => p.2 - p.1) (0, xs.length) (Weak.cov ⟨rfl, rfl, rfl, by rw [← hL]; rfl, rfl, by rw [← hL]; rfl, trivial⟩ ⟨trivial, trivial⟩ rfl) ⟨Nat.zero_le _, h0, Nat.le_refl _⟩ ?_
  rintro ⟨i, j⟩ ⟨q1, q2, q3⟩
  dsimp only at q1 q2 q3 ⊢
  (conv => whnf)
  (repeat (refine stg_ ?_))
  (refine br_ (fun h3 => ?_) (fun h3 => ?_) <;> (repeat (refine stg_ ?_)))
  · refine ShW.at (q := 2) rfl (by omega) ?_
    (conv => whnf)
    obtain ⟨h, hh⟩ : ∃ h : Nat, h = (i + j) / 2 := ⟨_, rfl⟩
    have hhi : ((i : Int) + (j : Int)) / 2 = (h : Int) := by omega
    obtain ⟨x, hx⟩ := at_lt' (xs := xs) (k := h) (by omega)
    have hx' : (xs.map TTable.D)[(h : Int).toNat]? = some x.D := by rw [Int.toNat_natCast, List.getElem?_map, hx]; rfl
    have d1 := c1 x
    (repeat (refine stg_ ?_))
    rw [hhi]
    (repeat' (first | (refine stg_ ?_) | (refine cla_ (d1) ?_) | (refine IxW.at (by omega) hx' ?_; (conv => whnf)) | (refine br_ (fun hbr => ?_) (fun hbr => ?_))))
    · have hlt : h < i0 := by
        rcases Nat.lt_or_ge h i0 with q | q
        · exact q
        · exact absurd hbr (h2 h x q hx)
      refine NextW.go (h + 1, j) covT_ ⟨by dsimp only; omega, by dsimp only; omega, by dsimp only; omega⟩ (by dsimp only; omega)
    · have hge : i0 ≤ h := by
        rcases Nat.lt_or_ge h i0 with q | q
        · have := h1 h x q hx; omega
        · exact q
      refine NextW.go (i, h) covT_ ⟨by dsimp only; omega, by dsimp only; omega, by dsimp only; omega⟩ (by dsimp only; omega)
  · obtain rfl : i = i0 := by omega
    by_cases hlt : i < xs.length
    · obtain ⟨x, hx⟩ := at_lt' (xs := xs) (k := i) hlt
      have d1 := c1 x
      have hf := hf1 x hx
      (repeat' (first | (refine stg_ ?_) | (refine cla_ (d1) ?_) | (refine br_ (fun hbr => ?_) (fun hbr => ?_))))
      all_goals first | (exfalso; omega) | skip
      rw [hf]
      (refine RetOK.t rfl ?_; (repeat' ((conv => whnf); (first | done | (refine ⟨_, _, rfl, ⟨rfl, ?_⟩, ?_⟩) | fail))); (all_goals (conv => whnf)))
      all_goals rfl
    · have hf := hf2 (by omega)
      (repeat' (first | (refine stg_ ?_) | fail | (refine br_ (fun hbr => ?_) (fun hbr => ?_))))
      all_goals first | (exfalso; omega) | skip
      rw [hf]
      (refine RetOK.t rfl ?_; (repeat' ((conv => whnf); (first | done | (refine ⟨_, _, rfl, ⟨rfl, ?_⟩, ?_⟩) | fail))); (all_goals (conv => whnf)))
      all_goals rfl
def posT (s : ByteArray) : List TTable → Nat
  | [] => 0
  | x :: t => if cmT x.fTag s < 0 then posT s t + 1 else 0
theorem pos_le (s : ByteArray) : ∀ xs, posT s xs ≤ xs.length
  | [] => Nat.le_refl _
  | x :: t => by
    have := pos_le s t
    rw [posT, List.length_cons]; split <;> omega
theorem pos_lt (s : ByteArray) : ∀ (xs : List TTable) (t : Nat) (x : TTable), t < posT s xs → xs[t]? = some x → cmT x.fTag s < 0
  | [], t, x, h, _ => by simp [posT] at h
  | y :: r, t, x, h, hx => by
    rw [posT] at h
    split at h
    · rename_i h1
      cases t with
      | zero => obtain rfl : y = x := by simpa using hx
                exact h1
      | succ t => exact pos_lt s r t x (by omega) (by simpa using hx)
    · omega
theorem pos_at (s : ByteArray) : ∀ (xs : List TTable) (x : TTable), xs[posT s xs]? = some x → ¬ cmT x.fTag s < 0
  | [], x, h => by simp [posT] at h
  | y :: r, x, h => by
    rw [posT] at h
    split at h
    · exact pos_at s r x (by simpa using h)
    · rename_i h1
      obtain rfl : y = x := by simpa using h
      exact h1
theorem tb_less : ∀ (xs : List TTable) (o : Option TTable), tbGo o xs = true → ∀ (i j : Nat) (x y : TTable), i < j → xs[i]? = some x → xs[j]? = some y → Op.bytesLess x.fTag.toList y.fTag.toList = true
  | [], _, _, i, j, x, y, _, hx, _ => by simp at hx
  | z :: t, o, h, i, j, x, y, hij, hx, hy => by
    simp only [tbGo, Bool.and_eq_true] at h
    obtain ⟨_, _, h3⟩ := h
    obtain ⟨j, rfl⟩ : ∃ k, j = k + 1 := ⟨j - 1, by omega⟩
    have hy : t[j]? = some y := by simpa using hy
    cases i with
    | succ i => exact tb_less t _ h3 i j x y (by omega) (by simpa using hx) hy
    | zero =>
      obtain rfl : z = x := by simpa using hx
      cases t with
      | nil => simp at hy
      | cons q r =>
        have h4 := h3
        simp only [tbGo, ltT, Bool.and_eq_true] at h4
        cases j with
        | zero => obtain rfl : q = y := by simpa using hy
                  exact h4.2.1
        | succ j => exact less_trans _ _ _ h4.2.1 (tb_less (q :: r) _ h3 0 (j + 1) q y (by omega) rfl hy)
theorem bT (s : ByteArray) : s.data.toList = s.toList := (Go.ByteArray.toList_eq s).symm
theorem pos_gt {xs : List TTable} {s : ByteArray} (hV : vtB xs = true) {j : Nat} {y : TTable} (hj : posT s xs < j) (hy : xs[j]? = some y) : 0 < cmT y.fTag s := by
  simp only [vtB, ordT, Bool.and_eq_true, decide_eq_true_eq] at hV
  obtain ⟨x, hx⟩ := at_lt' (xs := xs) (k := posT s xs) (by have := (List.getElem?_eq_some_iff.1 hy).1; omega)
  have h1 := pos_at s xs x hx
  have h2 := tb_less xs none hV.1.2 _ _ x y hj hx hy
  rw [← bT, ← bT] at h2
  refine Int.lt_of_not_ge fun h3 => ?_
  rcases Int.lt_or_eq_of_le h3 with h4 | h4
  · exact h1 ((cmL_less _ _).2 (less_trans _ _ _ h2 ((cmL_less _ _).1 h4)))
  · have := (cmL_eq _ _).1 h4
    rw [this] at h2
    exact h1 ((cmL_less _ _).2 h2)
def fdT (s : ByteArray) (xs : List TTable) : Bool :=
  match xs[posT s xs]? with
  | some x => decide (cmT x.fTag s = 0)
  | none => false
theorem fd_lt {s : ByteArray} {xs : List TTable} (h : fdT s xs = true) : posT s xs < xs.length := by
  unfold fdT at h
  split at h
  · rename_i x hx; exact (List.getElem?_eq_some_iff.1 hx).1
  · cases h
def setL (x : TTable) (xs : List TTable) : List TTable := if fdT x.fTag xs = true then xs.set (posT x.fTag xs) x else insL (posT x.fTag xs) x xs
theorem setL_len (x : TTable) (xs : List TTable) : (setL x xs).length = xs.length + if fdT x.fTag xs = true then 0 else 1 := by
  unfold setL
  split
  · simp
  · rw [insL_len (pos_le _ _)]
theorem zL_app {α : Type} (f : α → Nat) (xs ys : List α) : zL f (xs ++ ys) = zL f xs + zL f ys := by simp [zL]; omega
theorem setL_eq (x : TTable) (xs : List TTable) : setL x xs = xs.take (posT x.fTag xs) ++ x :: xs.drop (posT x.fTag xs + if fdT x.fTag xs = true then 1 else 0) := by
  unfold setL
  split
  · rename_i h; rw [List.set_eq_take_append_cons_drop, if_pos (fd_lt h)]
  · rfl
theorem zL_take {α : Type} (f : α → Nat) (xs : List α) (k : Nat) : zL f (xs.take k) + zL f (xs.drop k) = zL f xs := by rw [← zL_app, List.take_append_drop]
theorem setL_z (x : TTable) (xs : List TTable) : zL zTable (setL x xs) ≤ zL zTable xs + zTable x + 1 := by
  rw [setL_eq, zL_app, show x :: xs.drop (posT x.fTag xs + if fdT x.fTag xs = true then 1 else 0) = [x] ++ xs.drop (posT x.fTag xs + if fdT x.fTag xs = true then 1 else 0) from rfl, zL_app]
  have h1 := zL_take zTable xs (posT x.fTag xs)
  have h2 : zL zTable [x] = zTable x + 1 := by simp [zL]; omega
  have h3 : zL zTable (xs.drop (posT x.fTag xs + if fdT x.fTag xs = true then 1 else 0)) ≤ zL zTable (xs.drop (posT x.fTag xs)) := by
    rw [← List.drop_drop]
    have := zL_take zTable (xs.drop (posT x.fTag xs)) (if fdT x.fTag xs = true then 1 else 0)
    omega
  omega
def StR (xs : List TTable) (x : TTable) (v : V) (bs : List Blk) : Prop :=
  if vtB xs = true ∧ tagB x.fTag = true then
    if vtB (setL x xs) = true then v = .tup [.own 1 0 (setL x xs).length, .d (.int .i64 0)] ∧ bs = [.arr 2 ((setL x xs).map TTable.D) true]
    else v = .tup [.nils, .d (.int .i64 5)] ∧ bs = []
  else v = .tup [.nils, .d (.int .i64 1)] ∧ bs = []
theorem SetTable_v (xs : List TTable) (x : TTable) (hz : zL zTable xs ≤ 1048576) (hzx : zTable x ≤ 1048576) {v : V} {bs : List Blk} (hres : StR xs x v bs) : PC Tryd.prog 10 [.d (.lst (xs.map TTable.D)), .d x.D] v bs := by
  unfold StR at hres
  have hL : (xs.map TTable.D).length = xs.length := List.length_map _
  have c1 := ValidTables_v xs hz
  have c2 := ValidTag_v x.fTag
  have c3 := ValidTables_w (setL x xs) (by have := setL_z x xs; omega)
  cases hV : vtB xs with
  | false =>
    rw [hV] at c1 hres
    rw [if_neg (by simp)] at hres
    obtain ⟨rfl, rfl⟩ := hres
    refine pc_intro ttOk (by kernel_rfl) Tryd.func10 rfl (by kernel_rfl) (by kernel_rfl) (by kernel_rfl) (fun hw => ?_)
    (conv => whnf)
    (repeat' (first | (refine stg_ ?_) | (refine cla_ (c1) ?_) | (refine cla_ (c2) ?_) | (refine br_ (fun hbr => ?_) (fun hbr => ?_))))
    all_goals first | (exfalso; simp_all; done) | skip
    all_goals (refine ⟨⟨[], trivial, by decide, ⟨_, rfl, rfl, ⟨_, _, rfl, rfl, ⟨_, _, rfl, ⟨rfl, ?_⟩, rfl⟩⟩⟩⟩⟩; (conv => whnf))
    all_goals rfl
  | true =>
  cases hT : tagB x.fTag with
  | false =>
    rw [hV] at c1 hres
    rw [hT] at c2 hres
    rw [if_neg (by simp)] at hres
    obtain ⟨rfl, rfl⟩ := hres
    refine pc_intro ttOk (by kernel_rfl) Tryd.func10 rfl (by kernel_rfl) (by kernel_rfl) (by kernel_rfl) (fun hw => ?_)
    (conv => whnf)
    (repeat' (first | (refine stg_ ?_) | (refine cla_ (c1) ?_) | (refine cla_ (c2) ?_) | (refine br_ (fun hbr => ?_) (fun hbr => ?_))))
    all_goals first | (exfalso; simp_all; done) | skip
    all_goals (refine ⟨⟨[], trivial, by decide, ⟨_, rfl, rfl, ⟨_, _, rfl, rfl, ⟨_, _, rfl, ⟨rfl, ?_⟩, rfl⟩⟩⟩⟩⟩; (conv => whnf))
    all_goals rfl
  | true =>
  rw [if_pos ⟨hV, hT⟩] at hres
  have hl16 := vt_len hV
  have hpl := pos_le x.fTag xs
  have c0 := cloneTable_v xs (by omega)
  have c4 := bsf_v xs x.fTag (posT x.fTag xs) (by omega) hpl (pos_lt x.fTag xs) (fun t y ht hy => by
    rcases Nat.lt_or_ge (posT x.fTag xs) t with h | h
    · have := pos_gt hV h hy; omega
    · obtain rfl : t = posT x.fTag xs := by omega
      exact pos_at x.fTag xs y hy) (fdT x.fTag xs) (fun y hy => by unfold fdT; rw [hy]) (fun h => Bool.eq_false_iff.2 fun q => by have := fd_lt q; omega)
  rw [hV] at c1
  rw [hT] at c2
  have hsl := setL_len x xs
  cases hF : fdT x.fTag xs with
  | true =>
    have hlt := fd_lt hF
    rw [hF] at c4 hsl
    rw [if_pos rfl] at hsl
    have hE : (xs.map TTable.D).set (posT x.fTag xs) x.D = (setL x xs).map TTable.D := by rw [setL, if_pos hF, List.map_set]
    refine pc_intro ttOk (by kernel_rfl) Tryd.func10 rfl (by kernel_rfl) (by kernel_rfl) (by kernel_rfl) (fun hw => ?_)
    (conv => whnf)
    (repeat' (first | (refine stg_ ?_) | (refine cla_ (c1) ?_) | (refine cla_ (c2) ?_) | (refine cla_ (c0) ?_) | (refine cla_ (c4) ?_) | (refine br_ (fun hbr => ?_) (fun hbr => ?_))))
    obtain ⟨y, hy⟩ := at_lt' (xs := xs) (k := posT x.fTag xs) hlt
    have hy2 : (xs.map TTable.D)[((posT x.fTag xs : Nat) : Int).toNat + 0]? = some y.D := by rw [Nat.add_zero, Int.toNat_natCast, List.getElem?_map, hy]; rfl
    refine EoW.at hy2 ?_
    (conv => whnf)
    (repeat' (first | (refine stg_ ?_) | fail | (refine br_ (fun hbr => ?_) (fun hbr => ?_))))
    have hE' : (xs.map TTable.D).set (((posT x.fTag xs : Nat) : Int).toNat + 0) x.D = (setL x xs).map TTable.D := hE
    rw [hE', show xs.length = (setL x xs).length from hsl.symm]
    cases hO : vtB (setL x xs) with
    | false =>
      rw [hO] at c3 hres
      rw [if_neg (by simp)] at hres
      obtain ⟨rfl, rfl⟩ := hres
      (repeat' (first | (refine stg_ ?_) | (refine cla_ (c3) ?_) | (refine br_ (fun hbr => ?_) (fun hbr => ?_))))
      all_goals first | (exfalso; simp_all; done) | skip
      all_goals (refine ⟨⟨[], trivial, by decide, ⟨_, rfl, rfl, ⟨_, _, rfl, rfl, ⟨_, _, rfl, ⟨rfl, ?_⟩, rfl⟩⟩⟩⟩⟩; (conv => whnf))
      all_goals rfl
    | true =>
      rw [hO] at c3 hres
      rw [if_pos rfl] at hres
      obtain ⟨rfl, rfl⟩ := hres
      (repeat' (first | (refine stg_ ?_) | (refine cla_ (c3) ?_) | (refine br_ (fun hbr => ?_) (fun hbr => ?_))))
      all_goals first | (exfalso; simp_all; done) | skip
      all_goals (refine ⟨⟨[some 2], ⟨by decide, ?_, trivial, trivial⟩, by decide, ⟨_, rfl, rfl, ⟨_, _, rfl, ⟨by decide, ?_⟩, ⟨_, _, rfl, ⟨rfl, ?_⟩, rfl⟩⟩⟩⟩⟩)
      all_goals rfl
  | false =>
    rw [hF] at c4 hsl
    rw [if_neg (by simp)] at hsl
    have hE : insL (posT x.fTag xs) x xs = setL x xs := by rw [setL, if_neg (by simp [hF])]
    refine pc_intro ttOk (by kernel_rfl) Tryd.func10 rfl (by kernel_rfl) (by kernel_rfl) (by kernel_rfl) (fun hw => ?_)
    (conv => whnf)
    (repeat' (first | (refine stg_ ?_) | (refine cla_ (c1) ?_) | (refine cla_ (c2) ?_) | (refine cla_ (c0) ?_) | (refine cla_ (c4) ?_) | (refine cli_ (xs := xs) (x := x) hpl (by omega) ?_) | (refine br_ (fun hbr => ?_) (fun hbr => ?_))))
    rw [hE, show xs.length + 1 = (setL x xs).length from hsl.symm]
    cases hO : vtB (setL x xs) with
    | false =>
      rw [hO] at c3 hres
      rw [if_neg (by simp)] at hres
      obtain ⟨rfl, rfl⟩ := hres
      (repeat' (first | (refine stg_ ?_) | (refine cla_ (c3) ?_) | (refine br_ (fun hbr => ?_) (fun hbr => ?_))))
      all_goals first | (exfalso; simp_all; done) | skip
      all_goals (refine ⟨⟨[], trivial, by decide, ⟨_, rfl, rfl, ⟨_, _, rfl, rfl, ⟨_, _, rfl, ⟨rfl, ?_⟩, rfl⟩⟩⟩⟩⟩; (conv => whnf))
      all_goals rfl
    | true =>
      rw [hO] at c3 hres
      rw [if_pos rfl] at hres
      obtain ⟨rfl, rfl⟩ := hres
      (repeat' (first | (refine stg_ ?_) | (refine cla_ (c3) ?_) | (refine br_ (fun hbr => ?_) (fun hbr => ?_))))
      all_goals first | (exfalso; simp_all; done) | skip
      all_goals (refine ⟨⟨[some 2], ⟨by decide, ?_, trivial, trivial⟩, by decide, ⟨_, rfl, rfl, ⟨_, _, rfl, ⟨by decide, ?_⟩, ⟨_, _, rfl, ⟨rfl, ?_⟩, rfl⟩⟩⟩⟩⟩)
      all_goals rfl
theorem GetWord_v (s : ByteArray) (a : Nat) (h : a + 4 ≤ s.size) : PC Tryd.prog 45 [.d (.str s), .d (.int .i64 a), .d (.int .i64 (4 : Nat))] (.tup [.d (.int .i64 (gwK s a 4 : Nat)), .d (.bool true)]) [] := by
  refine pc_intro ttOk (by kernel_rfl) Tryd.func45 rfl (by kernel_rfl) (by kernel_rfl) (by kernel_rfl) (fun hw => ?_)
  have hs : s.size ≤ 9223372036854775807 := hw.1
  (conv => whnf)
  (repeat (refine stg_ ?_))
  (repeat' (first | (refine stg_ ?_) | fail | (refine br_ (fun hbr => ?_) (fun hbr => ?_))))
  all_goals first | (exfalso; simp_all; done) | (exfalso; simp_all; omega) | skip
  refine LoopW.go (α := Nat) (fun k => [(0, .d (.str s)), (1, .d (.int .i64 a)), (2, .d (.int .i64 (4 : Nat))), (8, .d (.int .i64 (gwK s a k : Nat))), (9, .d (.int .i64 k))]) (fun _ => [.gone]) (fun k => k ≤ 4) (fun k => 4 - k) 0 covT_ (by omega) (fun k hk => ?_)
  have hlt := gwK_lt s a k
  (conv => whnf)
  (refine br_ (fun h1 => ?_) (fun h1 => ?_))
  · have hc := bget? (s := s) (k := a + k) (by omega)
    have hcl := (s[a + k]'(by omega)).toNat_lt
    have hS := gwK_at hc
    have hpw : 256 ^ k ≤ 256 ^ 3 := Nat.pow_le_pow_right (by omega) (by omega)
    have ho := or_add (n := gwK s a k) (c := (s[a + k]'(by omega)).toNat) (by omega) hcl
    refine BnW.at (by omega) ?_
    (conv => whnf)
    refine ShW.at (q := 256) (by rfl) (by omega) ?_
    (conv => whnf)
    (refine stg_ ?_)
    refine ArW.i64e ((a + k : Nat) : Int) (by omega) (by omega) ?_
    (conv => whnf)
    (refine stg_ ?_)
    (refine stg_ ?_)
    refine ArW.i64e ((gwK s a (k + 1) : Nat) : Int) (by omega) (by omega) ?_
    (conv => whnf)
    (repeat (refine stg_ ?_))
    exact NextW.go (k + 1) covT_ (by omega) (by omega)
  · obtain rfl : k = 4 := by omega
    (refine RetOK.t rfl ?_; (repeat' ((conv => whnf); (first | done | (refine ⟨_, _, rfl, ⟨rfl, ?_⟩, ?_⟩) | fail))); (all_goals (conv => whnf)))
def zR (s : ByteArray) : Nat → Nat
  | 0 => 0
  | k + 1 => if s[k]? = some 0 then zR s k else k + 1
theorem zR_le (s : ByteArray) : ∀ k, zR s k ≤ k
  | 0 => Nat.le_refl _
  | k + 1 => by
    have := zR_le s k
    rw [zR]; split <;> omega
def zF (s : ByteArray) : Nat → Nat → Nat
  | 0, k => k
  | f + 1, k => if s[k]? = some 0 then zF s f (k + 1) else k
def zT (s : ByteArray) : ByteArray := (s.extract 0 (zR s s.size)).extract (zF (s.extract 0 (zR s s.size)) (s.extract 0 (zR s s.size)).size 0) (s.extract 0 (zR s s.size)).size
theorem ext_size (s : ByteArray) {a b : Nat} (h : b ≤ s.size) : (s.extract a b).size = b - a := by simp; omega
theorem ext_get (s : ByteArray) {a b j : Nat} (h : b ≤ s.size) (hj : a + j < b) : (s.extract a b)[j]? = s[a + j]? := by
  have h1 : j < (s.extract a b).size := by rw [ext_size s h]; omega
  rw [getElem?_pos _ j h1, getElem?_pos s (a + j) (by omega), ByteArray.getElem_extract]
theorem ext_ext (s : ByteArray) {a b c : Nat} (hc : a + c ≤ b) : (s.extract a b).extract 0 c = s.extract a (a + c) := by
  rw [ByteArray.extract_extract]
  congr 1; omega
theorem ext_ext1 (s : ByteArray) {a b : Nat} : (s.extract a b).extract 1 (b - a) = s.extract (a + 1) b := by
  rw [ByteArray.extract_extract]
  congr 1
  rcases Nat.lt_or_ge a b with h | h
  · omega
  · omega
theorem trimR_v (s : ByteArray) : PC Tryd.prog 67 [.d (.str s), .d (.int .u8 (0 : Nat))] (.d (.str (s.extract 0 (zR s s.size)))) [] := by
  refine pc_intro ttOk (by kernel_rfl) Tryd.func67 rfl (by kernel_rfl) (by kernel_rfl) (by kernel_rfl) (fun hw => ?_)
  have hs : s.size ≤ 9223372036854775807 := hw.1
  (conv => whnf)
  refine LoopW.go (α := Nat) (fun k => [(0, .d (.str (s.extract 0 k))), (1, .d (.int .u8 (0 : Nat)))]) (fun _ => [.gone]) (fun k => k ≤ s.size ∧ zR s s.size = zR s k) (fun k => k) s.size (Weak.cov ⟨by rw [ByteArray.extract_zero_size]; rfl, rfl, trivial⟩ ⟨trivial, trivial⟩ rfl) ⟨Nat.le_refl _, rfl⟩ (fun k hk => ?_)
  obtain ⟨hk1, hk2⟩ := hk
  have hz := ext_size s (a := 0) hk1
  (conv => whnf)
  (refine br_ (fun h1 => ?_) (fun h1 => ?_))
  · obtain ⟨k, rfl⟩ : ∃ j, k = j + 1 := ⟨k - 1, by omega⟩
    have hc := bget? (s := s) (k := k) (by omega)
    have he : (s.extract 0 (k + 1))[k]? = some (s[k]'(by omega)) := by rw [ext_get s hk1 (by omega), Nat.zero_add, hc]
    have hx := ext_ext s (a := 0) (b := k + 1) (c := k) (by omega)
    refine ArW.i64e (k : Int) (by omega) (by omega) ?_
    (conv => whnf)
    (refine stg_ ?_)
    (refine br_ (fun h2 => ?_) (fun h2 => ?_))
    · refine ArW.i64e (k : Int) (by omega) (by omega) ?_
      (conv => whnf)
      (repeat (refine stg_ ?_))
      have h0 : s[k]'(by omega) = 0 := UInt8.toNat_inj.1 (by have : (0 : UInt8).toNat = 0 := rfl; omega)
      refine NextW.go k (Weak.cov ⟨?_, rfl, trivial⟩ ⟨trivial, trivial⟩ rfl) ⟨by omega, ?_⟩ (by omega)
      · exact congrArg (fun z => V.d (D.str z)) (hx.trans (by rw [Nat.zero_add]))
      · rw [hk2, zR, if_pos (by rw [hc, h0])]
    · (refine RetOK.d rfl rfl ?_; conv => whnf)
      have h0 : ¬ s[k]? = some 0 := by
        rw [hc]; intro e; injection e with e; rw [e] at h2; exact h2 rfl
      rw [hk2, zR, if_neg h0]
  · obtain rfl : k = 0 := by omega
    (repeat (refine stg_ ?_))
    (refine RetOK.d rfl rfl ?_; conv => whnf)
    rw [hk2]; rfl
theorem trimL_v (s : ByteArray) : PC Tryd.prog 66 [.d (.str s), .d (.int .u8 (0 : Nat))] (.d (.str (s.extract (zF s s.size 0) s.size))) [] := by
  refine pc_intro ttOk (by kernel_rfl) Tryd.func66 rfl (by kernel_rfl) (by kernel_rfl) (by kernel_rfl) (fun hw => ?_)
  have hs : s.size ≤ 9223372036854775807 := hw.1
  (conv => whnf)
  refine LoopW.go (α := Nat) (fun k => [(0, .d (.str (s.extract k s.size))), (1, .d (.int .u8 (0 : Nat)))]) (fun _ => [.gone]) (fun k => k ≤ s.size ∧ zF s s.size 0 = zF s (s.size - k) k) (fun k => s.size - k) 0 (Weak.cov ⟨by rw [ByteArray.extract_zero_size]; rfl, rfl, trivial⟩ ⟨trivial, trivial⟩ rfl) ⟨by omega, rfl⟩ (fun k hk => ?_)
  obtain ⟨hk1, hk2⟩ := hk
  have hz := ext_size s (a := k) (Nat.le_refl s.size)
  (conv => whnf)
  (refine br_ (fun h1 => ?_) (fun h1 => ?_))
  · have hc := bget? (s := s) (k := k) (by omega)
    have he : (s.extract k s.size)[0]? = some (s[k]'(by omega)) := by rw [ext_get s (Nat.le_refl _) (by omega), Nat.add_zero, hc]
    have hx : (s.extract k s.size).extract 1 (s.extract k s.size).size = s.extract (k + 1) s.size := by rw [hz]; exact ext_ext1 s
    rw [show s.size - k = (s.size - (k + 1)) + 1 by omega, zF] at hk2
    (refine stg_ ?_)
    (refine br_ (fun h2 => ?_) (fun h2 => ?_))
    · (repeat (refine stg_ ?_))
      have h0 : s[k]'(by omega) = 0 := UInt8.toNat_inj.1 (by have : (0 : UInt8).toNat = 0 := rfl; omega)
      rw [if_pos (by rw [hc, h0])] at hk2
      refine NextW.go (k + 1) (Weak.cov ⟨?_, rfl, trivial⟩ ⟨trivial, trivial⟩ rfl) ⟨by omega, hk2⟩ (by omega)
      exact congrArg (fun z => V.d (D.str z)) hx
    · (refine RetOK.d rfl rfl ?_; conv => whnf)
      have h0 : ¬ s[k]? = some 0 := by
        rw [hc]; intro e; injection e with e; rw [e] at h2; exact h2 rfl
      rw [hk2, if_neg h0]
  · obtain rfl : k = s.size := by omega
    (repeat (refine stg_ ?_))
    (refine RetOK.d rfl rfl ?_; conv => whnf)
    rw [hk2, Nat.sub_self]; rfl
theorem Trim_c (s c : ByteArray) (hc1 : c.size = 1) (hc2 : c[0]? = some 0) (hc3 : (c.toList == (ByteArray.mk #[]).toList) = false) : PC Tryd.prog 46 [.d (.str s), .d (.str c)] (.d (.str (zT s))) [] := by
  refine pc_intro ttOk (by kernel_rfl) Tryd.func46 rfl (by kernel_rfl) (by kernel_rfl) (by kernel_rfl) (fun hw => ?_)
  have hs : s.size ≤ 9223372036854775807 := hw.1
  (conv => whnf)
  (refine br_ (fun h1 => ?_) (fun h1 => ?_))
  · (repeat (refine stg_ ?_))
    (refine RetOK.d rfl rfl ?_; conv => whnf)
    have h0 : s = ByteArray.mk #[] := toL_inj h1
    subst h0
    rfl
  · have c1 := trimR_v s
    have c2 := trimL_v (s.extract 0 (zR s s.size))
    (repeat' (first | (refine stg_ ?_) | (refine cla_ (c1) ?_) | (refine cla_ (c2) ?_) | (refine br_ (fun hbr => ?_) (fun hbr => ?_))))
    all_goals first | (exfalso; simp_all; done) | (exfalso; rw [hc1] at *; simp_all; done) | skip
    (refine RetOK.d rfl rfl ?_; conv => whnf)
    rfl
theorem Trim_v (s : ByteArray) : PC Tryd.prog 46 [.d (.str s), .d (.str ⟨#[0]⟩)] (.d (.str (zT s))) [] := Trim_c s ⟨#[0]⟩ rfl rfl (by rw [ByteArray.toList_eq, ByteArray.toList_eq]; rfl)
theorem zR_zero (s : ByteArray) : ∀ k, zR s k = 0 ↔ ∀ j, j < k → s[j]? = some 0
  | 0 => by simp [zR]
  | k + 1 => by
    rw [zR]
    split
    · rename_i h
      rw [zR_zero s k]
      constructor
      · intro H j hj
        rcases Nat.lt_or_ge j k with h1 | h1
        · exact H j h1
        · obtain rfl : j = k := by omega
          exact h
      · intro H j hj
        exact H j (by omega)
    · rename_i h
      constructor
      · intro H; omega
      · intro H; exact absurd (H k (by omega)) h
theorem zR_last (s : ByteArray) : ∀ k, zR s k = 0 ∨ ¬ s[zR s k - 1]? = some 0
  | 0 => .inl rfl
  | k + 1 => by
    rw [zR]
    split
    · exact zR_last s k
    · rename_i h
      exact .inr h
theorem zF_le (s : ByteArray) {m : Nat} (hm : ¬ s[m]? = some 0) : ∀ f k, k ≤ m → zF s f k ≤ m
  | 0, k, h => h
  | f + 1, k, h => by
    rw [zF]
    split
    · rename_i h1
      have : k ≠ m := by rintro rfl; exact hm h1
      exact zF_le s hm f (k + 1) (by omega)
    · exact h
theorem zT_nil (s : ByteArray) : ((zT s).toList = (ByteArray.mk #[]).toList) ↔ zR s s.size = 0 := by
  have hle := zR_le s s.size
  constructor
  · intro h
    rcases zR_last s s.size with h1 | h1
    · exact h1
    · apply Classical.byContradiction
      intro h2
      have h3 : (zT s).size = 0 := by rw [toL_inj h]; rfl
      have h4 := ext_size s (a := 0) hle
      have h5 : ¬ (s.extract 0 (zR s s.size))[zR s s.size - 1]? = some 0 := by rw [ext_get s hle (by omega), Nat.zero_add]; exact h1
      have h6 := zF_le _ h5 (s.extract 0 (zR s s.size)).size 0 (by omega)
      rw [zT, ext_size _ (Nat.le_refl _)] at h3
      omega
  · intro h
    have h3 : (zT s).size = 0 := by rw [zT, ext_size _ (Nat.le_refl _), ext_size s hle, h]; omega
    have : zT s = ByteArray.mk #[] := ByteArray.ext (Array.eq_empty_of_size_eq_zero h3)
    rw [this]
theorem zR_pad (s : ByteArray) {a b : Nat} (hb : b ≤ s.size) : zR (s.extract a b) (s.extract a b).size = 0 ↔ ∀ k, a ≤ k → k < b → s[k]? = some 0 := by
  rw [zR_zero, ext_size s hb]
  constructor
  · intro H k h1 h2
    have := H (k - a) (by omega)
    rw [ext_get s hb (by omega)] at this
    rwa [show a + (k - a) = k by omega] at this
  · intro H j hj
    rw [ext_get s hb (by omega)]
    exact H (a + j) (by omega) (by omega)
def cnt (s : ByteArray) : Nat := gwK s 4 4
def mag : ByteArray := ⟨#[80, 84, 70, 49]⟩
def hdE (s : ByteArray) : Nat := if 65536 < s.size then 5 else if s.size < 12 then 11 else if ¬ (s.extract 0 4).toList = mag.toList ∨ 16 < cnt s then 9 else if s.size < 12 + 16 * cnt s then 11 else if ¬ (gwK s 8 4 : Int) = sumB (s.extract 12 (12 + 16 * cnt s)) then 10 else 0
theorem checkHead_v (s : ByteArray) : PC Tryd.prog 44 [.d (.str s)] (.tup [.d (.int .i64 (if hdE s = 0 then cnt s else 0 : Nat)), .d (.int .i64 (hdE s))]) [] := by
  refine pc_intro ttOk (by kernel_rfl) Tryd.func44 rfl (by kernel_rfl) (by kernel_rfl) (by kernel_rfl) (fun hw => ?_)
  have hs : s.size ≤ 9223372036854775807 := hw.1
  (conv => whnf)
  (repeat (refine stg_ ?_))
  (refine br_ (fun h1 => ?_) (fun h1 => ?_) <;> (repeat (refine stg_ ?_)))
  · have e : hdE s = 5 := by rw [hdE, if_pos (by omega)]
    rw [e]
    (refine RetOK.t rfl ?_; (repeat' ((conv => whnf); (first | done | (refine ⟨_, _, rfl, ⟨rfl, ?_⟩, ?_⟩) | fail))); (all_goals (conv => whnf)))
    all_goals rfl
  (refine br_ (fun h2 => ?_) (fun h2 => ?_) <;> (repeat (refine stg_ ?_)))
  · have e : hdE s = 11 := by rw [hdE, if_neg (by omega), if_pos (by omega)]
    rw [e]
    (refine RetOK.t rfl ?_; (repeat' ((conv => whnf); (first | done | (refine ⟨_, _, rfl, ⟨rfl, ?_⟩, ?_⟩) | fail))); (all_goals (conv => whnf)))
    all_goals rfl
  have c1 := GetWord_v s 4 (by omega)
  have hg := gwK_lt s 4 4
  (refine cla_ (c1) ?_)
  (repeat (refine stg_ ?_))
  (refine br_ (fun h3 => ?_) (fun h3 => ?_) <;> (repeat (refine stg_ ?_)))
  · have e : hdE s = 9 := by rw [hdE, if_neg (by omega), if_neg (by omega), if_pos (.inl h3)]
    rw [e]
    (refine RetOK.t rfl ?_; (repeat' ((conv => whnf); (first | done | (refine ⟨_, _, rfl, ⟨rfl, ?_⟩, ?_⟩) | fail))); (all_goals (conv => whnf)))
    all_goals rfl
  have h3' : (s.extract 0 4).toList = mag.toList := h3
  (refine br_ (fun h4 => ?_) (fun h4 => ?_) <;> (repeat (refine stg_ ?_)))
  · have e : hdE s = 9 := by rw [hdE, if_neg (by omega), if_neg (by omega), if_pos (.inr (by unfold cnt; omega))]
    rw [e]
    (refine RetOK.t rfl ?_; (repeat' ((conv => whnf); (first | done | (refine ⟨_, _, rfl, ⟨rfl, ?_⟩, ?_⟩) | fail))); (all_goals (conv => whnf)))
    all_goals rfl
  have h4' : cnt s ≤ 16 := by unfold cnt; omega
  have hcl : ((gwK s 4 4 : Nat) : Int) = ((cnt s : Nat) : Int) := rfl
  rw [hcl, show (12 : Int) + 16 * ((cnt s : Nat) : Int) = ((12 + 16 * cnt s : Nat) : Int) by omega]
  have c2 := GetWord_v s 8 (by omega)
  have c3 := Sum32_v (s.extract 12 (12 + 16 * cnt s))
  (refine br_ (fun h5 => ?_) (fun h5 => ?_) <;> (repeat (refine stg_ ?_)))
  · have e : hdE s = 11 := by rw [hdE, if_neg (by omega), if_neg (by omega), if_neg (by rintro (h | h); (focus exact h h3'); omega), if_pos (by omega)]
    rw [e]
    (refine RetOK.t rfl ?_; (repeat' ((conv => whnf); (first | done | (refine ⟨_, _, rfl, ⟨rfl, ?_⟩, ?_⟩) | fail))); (all_goals (conv => whnf)))
    all_goals rfl
  (refine cla_ (c2) ?_)
  (repeat (refine stg_ ?_))
  (refine cla_ (c3) ?_)
  (refine br_ (fun h6 => ?_) (fun h6 => ?_) <;> (repeat (refine stg_ ?_)))
  · have e : hdE s = 10 := by rw [hdE, if_neg (by omega), if_neg (by omega), if_neg (by rintro (h | h); (focus exact h h3'); omega), if_neg (by omega), if_pos h6]
    rw [e]
    (refine RetOK.t rfl ?_; (repeat' ((conv => whnf); (first | done | (refine ⟨_, _, rfl, ⟨rfl, ?_⟩, ?_⟩) | fail))); (all_goals (conv => whnf)))
    all_goals rfl
  · have e : hdE s = 0 := by rw [hdE, if_neg (by omega), if_neg (by omega), if_neg (by rintro (h | h); (focus exact h h3'); omega), if_neg (by omega), if_neg (by rw [h6]; exact fun h => h rfl)]
    rw [e]
    (refine RetOK.t rfl ?_; (repeat' ((conv => whnf); (first | done | (refine ⟨_, _, rfl, ⟨rfl, ?_⟩, ?_⟩) | fail))); (all_goals (conv => whnf)))
    all_goals rfl
end Go.Proofs.YtdeafbgnbgihgaaDoor