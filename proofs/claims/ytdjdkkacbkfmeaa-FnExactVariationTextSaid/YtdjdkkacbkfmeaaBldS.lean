/- A strings.Builder at this program: copyCheck, WriteString, WriteByte, String. -/
import Derived.Test.YtdjdkkacbkfmeaaVMBld
import Derived.Test.YtdjdkkacbkfmeaaShelf
import Derived.Test.YtdjdkkacbkfmeaaTT
set_option linter.unusedSimpArgs false
set_option linter.unusedVariables false
namespace Go.Proofs.Ytdjdkkacbkfmeaa
open Go.RowKit Go.Shelf
set_option maxHeartbeats 1000000 in
set_option maxRecDepth 100000 in
theorem cc_used (b : Nat) (w : World) (h0 : w.cell? ⟨b, 0, none⟩ = some (.pointer (some ⟨b, 0, none⟩))) :
    Calls Try.prog 120 #[.pointer (some ⟨b, 0, none⟩)] w fun e w' => e = .returned (.tuple #[]) ∧ w' = w := by
  obtain ⟨j, hj, hjs⟩ := Option.map_eq_some_iff.1 (show (Try.prog.info? 107).map (·.size) = some 2 by kernel_rfl)
  go_enter Try.func120, Try.ntmps120
  go_wp2
  rw [Lib.run_neq_ptr_same w _ Try.underlying105 hj]
  go_wp2
  go_end0
  exact ⟨rfl, rfl⟩
set_option maxHeartbeats 1000000 in
set_option maxRecDepth 100000 in
theorem cc_fresh (b : Nat) (w : World) (h0 : w.cell? ⟨b, 0, none⟩ = some (.pointer none)) (hsh : w.shape? b = some (107, 2)) (hfz : w.frozen? ⟨b, 0, none⟩ = false) :
    Calls Try.prog 120 #[.pointer (some ⟨b, 0, none⟩)] w fun e w' => e = .returned (.tuple #[]) ∧ w' = w.setCell ⟨b, 0, none⟩ (.pointer (some ⟨b, 0, none⟩)) := by
  obtain ⟨j, hj, hjs⟩ := Option.map_eq_some_iff.1 (show (Try.prog.info? 107).map (·.size) = some 2 by kernel_rfl)
  go_enter Try.func120, Try.ntmps120
  go_wp2
  rw [Lib.run_to_unsafe w ⟨b, 0, none⟩ Try.underlying105 Try.underlying224 hj (by rw [hjs]; decide) hsh (Nat.zero_lt_succ 1)]
  simp only [Result.andThen]
  rw [Oper.upon_value]
  go_wp2
  rw [run_callFunc_extern Try.func159 (by kernel_rfl) (by kernel_rfl) (by kernel_rfl) (e := Extern.AbiNoEscape.same) (by kernel_rfl)]
  rw [Lib.run_noEscape]
  simp only [Result.andThen]
  rw [Oper.upon_value]
  go_wp2
  rw [Lib.run_from_unsafe w ⟨b, 0, none⟩ Try.underlying224 Try.underlying105 hj hsh (by kernel_rfl)]
  simp only [Result.andThen]
  rw [Oper.upon_value]
  go_wp2
  go_end0
  exact ⟨rfl, rfl⟩
/-- copyCheck: the builder knows its place behind it -/
theorem cc_p (b : Nat) (F : List Nat) (bs : List UInt8) (w : World) (h : bldR w b F 107 5 bs) (hb : b ∉ F) :
    Calls Try.prog 120 #[.pointer (some ⟨b, 0, none⟩)] w fun e w' => e = .returned (.tuple #[]) ∧ (∃ v, w'.heap[b]? = some (.cells #[.pointer (some ⟨b, 0, none⟩), v] 107 (0, 0)) ∧ rowR w' v F 5 bs) ∧
      OnlyB w w' b := by
  obtain ⟨p, v, h1, h2, h3⟩ := h
  rcases h2 with rfl | rfl
  · refine (cc_fresh b w (by rw [Lib.cell_of_heap h1]; rfl) (by simp [World.shape?, h1]) (Lib.frozen_of_heap h1 0)).mono ?_
    rintro e w' ⟨rfl, rfl⟩
    exact ⟨rfl, ⟨v, by rw [setCell_heap0 h1]; rfl, rowR_keep h3 fun x hx => setCell_other0 (by rintro rfl; exact hb hx) 0 _⟩, ⟨rfl, rfl, rfl, setCell_size0 0 _, fun x hx => setCell_other0 hx 0 _⟩⟩
  · refine (cc_used b w (by rw [Lib.cell_of_heap h1]; rfl)).mono ?_
    rintro e w' ⟨rfl, rfl⟩
    exact ⟨rfl, ⟨v, h1, h3⟩, ⟨rfl, rfl, rfl, rfl, fun _ _ => rfl⟩⟩
set_option maxHeartbeats 2000000 in
set_option maxRecDepth 100000 in
theorem wr_p (b : Nat) (F : List Nat) (bs : List UInt8) (s : ByteArray) (w : World) (h : bldR w b F 107 5 bs) (hb : b ∉ F) (hlen : bs.length + s.size ≤ 140737488355328) :
    Calls Try.prog 60 #[.pointer (some ⟨b, 0, none⟩), .string s] w fun e w' => e = .returned (.tuple #[.int .i64 s.size, .nilIface]) ∧ ∃ F', bldR w' b F' 107 5 (bs ++ s.data.toList) ∧ Kept w w' (b :: F) (b :: F') := by
  obtain ⟨i0, hi, hz0, hz1, hz2⟩ := info_parts (show (Try.prog.info? 5).map (fun i => (i.zero, i.size, i.bytes)) = some (some (.int .u8 0), 1, 1) by kernel_rfl)
  have hbw : b < w.heap.size := by obtain ⟨p, v, h1, _⟩ := h; exact lt_of_heap h1
  go_enter Try.func60, Try.ntmps60
  go_wp2_with (go_at_call 120; refine (cc_p b F bs _ h hb).mono ?_)
  rintro e w1 ⟨rfl, ⟨v, hbk, hrow⟩, ho⟩
  have c0 : w1.cell? ⟨b, 0, none⟩ = some (.pointer (some ⟨b, 0, none⟩)) := by rw [Lib.cell_of_heap hbk]; rfl
  have c1 : w1.cell? ⟨b, 1, none⟩ = some v := by rw [Lib.cell_of_heap hbk]; rfl
  go_wp2_with (at_builtin; refine wpList_app_row rfl _ _ 62 9 rfl 5 i0 Try.underlying62 Try.underlying9 hi hz0 hz1 hz2 _ F bs rfl hrow s rfl hlen ?_)
  intro v' w2 F' hrow' hgrow hF'
  have hnb : some b ≠ v.ownBlock := fun q => hb ((rowR_block hrow b).1 q.symm)
  have hb2 : w2.heap[b]? = some (.cells #[.pointer (some ⟨b, 0, none⟩), v] 107 (0, 0)) := by
    rw [hgrow.block b (lt_of_heap hbk) hnb]
    exact hbk
  have d0 : w2.cell? ⟨b, 0, none⟩ = some (.pointer (some ⟨b, 0, none⟩)) := by rw [Lib.cell_of_heap hb2]; rfl
  have d1 : w2.cell? ⟨b, 1, none⟩ = some v := by rw [Lib.cell_of_heap hb2]; rfl
  have f1 : w2.frozen? ⟨b, 1, none⟩ = false := Lib.frozen_of_heap hb2 1
  obtain ⟨ao, n', cap, rfl⟩ : ∃ ao n' cap, v' = .slice ao n' cap := by
    rcases hrow' with ⟨hv, _⟩ | ⟨g, cap, cur, fz, hv, _⟩
    · exact ⟨_, _, _, hv⟩
    · exact ⟨_, _, _, hv⟩
  have hbF' : b ∉ F' := fun hx => by
    rcases hF' b hx with q | q
    · exact hb q
    · have := lt_of_heap hbk; omega
  go_wp2
  go_ret2
  refine ⟨rfl, F', ⟨_, _, by rw [setCell_heap0 hb2]; rfl, .inr rfl, rowR_keep hrow' fun x hx => setCell_other0 (by rintro rfl; exact hbF' hx) 1 _⟩, ?_⟩
  obtain ⟨l1, l2⟩ := rowR_lt hrow'
  obtain ⟨o1, o2, o3, o4, o5⟩ := ho
  refine ⟨hgrow.os.trans o1, hgrow.tape.trans o2, hgrow.output.trans o3, by rw [setCell_size0]; have := hgrow.size; omega, fun x hx hxL => ?_, by simp [hbF', l2], fun x hx => ?_, fun x hx => ?_⟩
  · have hxb : x ≠ b := fun q => hxL (by simp [q])
    rw [setCell_other0 hxb, hgrow.block x (by omega) (fun q => hxL (by simp [(rowR_block hrow x).1 q.symm])), o5 x hxb]
  · rcases List.mem_cons.1 hx with rfl | hx
    · exact .inl (by simp)
    · rcases hF' x hx with q | q
      · exact .inl (by simp [q])
      · exact .inr (by omega)
  · rw [setCell_size0]
    rcases List.mem_cons.1 hx with rfl | hx
    · exact lt_of_heap hb2
    · exact l1 x hx
set_option maxHeartbeats 2000000 in
set_option maxRecDepth 100000 in
theorem wb_p (b : Nat) (F : List Nat) (bs : List UInt8) (c : UInt8) (w : World) (h : bldR w b F 107 5 bs) (hb : b ∉ F) (hlen : bs.length + 1 ≤ 140737488355328) :
    Calls Try.prog 103 #[.pointer (some ⟨b, 0, none⟩), .int .u8 (c.toNat : Int)] w fun e w' => e = .returned .nilIface ∧ ∃ F', bldR w' b F' 107 5 (bs ++ [c]) ∧ Kept w w' (b :: F) (b :: F') := by
  obtain ⟨i0, hi, hz0, hz1, hz2⟩ := info_parts (show (Try.prog.info? 5).map (fun i => (i.zero, i.size, i.bytes)) = some (some (.int .u8 0), 1, 1) by kernel_rfl)
  have hbw : b < w.heap.size := by obtain ⟨p, v, h1, _⟩ := h; exact lt_of_heap h1
  go_enter Try.func103, Try.ntmps103
  go_wp2_with (go_at_call 120; refine (cc_p b F bs _ h hb).mono ?_)
  rintro e w1 ⟨rfl, ⟨v, hbk, hrow⟩, ho⟩
  have c0 : w1.cell? ⟨b, 0, none⟩ = some (.pointer (some ⟨b, 0, none⟩)) := by rw [Lib.cell_of_heap hbk]; rfl
  have c1 : w1.cell? ⟨b, 1, none⟩ = some v := by rw [Lib.cell_of_heap hbk]; rfl
  go_wp2_with (at_builtin; refine wpList_app_byte rfl _ _ 62 rfl 5 i0 Try.underlying62 hi hz0 hz1 hz2 _ F bs rfl ?cr c ⟨w1.heap.size, 0, none⟩ rfl ?cc hlen ?_)
  case cr => exact rowR_keep hrow (fun x hx => heap_alloc_old w1 _ ((rowR_lt hrow).1 x hx))
  case cc => rw [Lib.cell_of_heap (heap_alloc_new w1 _)]; rfl
  intro v' w2 F' hrow' hgrow hF'
  have hnb : some b ≠ v.ownBlock := fun q => hb ((rowR_block hrow b).1 q.symm)
  have hb2 : w2.heap[b]? = some (.cells #[.pointer (some ⟨b, 0, none⟩), v] 107 (0, 0)) := by
    rw [hgrow.block b (by have := lt_of_heap hbk; simp; omega) hnb, heap_alloc_old w1 _ (lt_of_heap hbk)]
    exact hbk
  have d0 : w2.cell? ⟨b, 0, none⟩ = some (.pointer (some ⟨b, 0, none⟩)) := by rw [Lib.cell_of_heap hb2]; rfl
  have d1 : w2.cell? ⟨b, 1, none⟩ = some v := by rw [Lib.cell_of_heap hb2]; rfl
  have f1 : w2.frozen? ⟨b, 1, none⟩ = false := Lib.frozen_of_heap hb2 1
  obtain ⟨ao, n', cap, rfl⟩ : ∃ ao n' cap, v' = .slice ao n' cap := by
    rcases hrow' with ⟨hv, _⟩ | ⟨g, cap, cur, fz, hv, _⟩
    · exact ⟨_, _, _, hv⟩
    · exact ⟨_, _, _, hv⟩
  have hbF' : b ∉ F' := fun hx => by
    rcases hF' b hx with q | q
    · exact hb q
    · have := lt_of_heap hbk; (try simp at q); omega
  go_wp2
  go_ret
  refine ⟨rfl, F', ⟨_, _, by rw [setCell_heap0 hb2]; rfl, .inr rfl, rowR_keep hrow' fun x hx => setCell_other0 (by rintro rfl; exact hbF' hx) 1 _⟩, ?_⟩
  obtain ⟨l1, l2⟩ := rowR_lt hrow'
  obtain ⟨o1, o2, o3, o4, o5⟩ := ho
  refine ⟨hgrow.os.trans o1, hgrow.tape.trans o2, hgrow.output.trans o3, by rw [setCell_size0]; have := hgrow.size; simp at this; omega, fun x hx hxL => ?_, by simp [hbF', l2], fun x hx => ?_, fun x hx => ?_⟩
  · have hxb : x ≠ b := fun q => hxL (by simp [q])
    rw [setCell_other0 hxb, hgrow.block x (by simp; omega) (fun q => hxL (by simp [(rowR_block hrow x).1 q.symm])), heap_alloc_old w1 _ (by omega), o5 x hxb]
  · rcases List.mem_cons.1 hx with rfl | hx
    · exact .inl (by simp)
    · rcases hF' x hx with q | q
      · exact .inl (by simp [q])
      · exact .inr (by (try simp at q); omega)
  · rw [setCell_size0]
    rcases List.mem_cons.1 hx with rfl | hx
    · exact lt_of_heap hb2
    · exact l1 x hx

theorem bc_ws {fn : Func} (h1 : Try.prog.funcs[60]? = some fn) (h2 : (fn.name == "runtime.NumGoroutine") = false) (h3 : fn.body.isNone = false) (bs : List UInt8) (s : ByteArray) (hlen : bs.length + s.size ≤ 140737488355328) :
    BC Try.prog 60 107 5 bs [.d (.str s)] (.tup [.d (.int .i64 (s.size : Nat)), .top]) (bs ++ s.data.toList) where
  fn := ⟨fn, h1, h2, h3⟩
  run w g F args hargs hb hg := by
    obtain ⟨c, cs, rfl, r1, rfl⟩ := hargs
    obtain ⟨rfl, hs⟩ := rep_str.1 (rep_of_rep1 r1)
    refine (wr_p g F bs s w hb hg hlen).mono ?_
    rintro en w' ⟨rfl, F', k1, k2⟩
    refine ⟨_, F', rfl, fun M h => ⟨_, rfl, ?_⟩, k1, k2⟩
    exact ⟨_, _, rfl, rep1_of_rep rfl (rep_int.2 ⟨rfl, nat_inR hs⟩), _, _, rfl, nilIface_top, rfl⟩
theorem bc_wb {fn : Func} (h1 : Try.prog.funcs[103]? = some fn) (h2 : (fn.name == "runtime.NumGoroutine") = false) (h3 : fn.body.isNone = false) (bs : List UInt8) (c : UInt8) (hlen : bs.length + 1 ≤ 140737488355328) :
    BC Try.prog 103 107 5 bs [.d (.int .u8 (c.toNat : Int))] .top (bs ++ [c]) where
  fn := ⟨fn, h1, h2, h3⟩
  run w g F args hargs hb hg := by
    obtain ⟨cc, cs, rfl, r1, rfl⟩ := hargs
    obtain ⟨rfl, hs⟩ := rep_int.1 (rep_of_rep1 r1)
    refine (wb_p g F bs c w hb hg hlen).mono ?_
    rintro en w' ⟨rfl, F', k1, k2⟩
    exact ⟨_, F', rfl, fun M h => trivial, k1, k2⟩

theorem ws_b (bs : List UInt8) (s : ByteArray) (hlen : bs.length + s.size ≤ 140737488355328) : BC Try.prog 60 107 5 bs [.d (.str s)] (.tup [.d (.int .i64 (s.size : Nat)), .top]) (bs ++ s.data.toList) :=
  bc_ws Try.func60 rfl rfl bs s hlen
theorem wb_b (bs : List UInt8) (c : UInt8) (hlen : bs.length + 1 ≤ 140737488355328) : BC Try.prog 103 107 5 bs [.d (.int .u8 (c.toNat : Int))] .top (bs ++ [c]) :=
  bc_wb Try.func103 rfl rfl bs c hlen
theorem str_b (bs : List UInt8) : BC Try.prog 64 107 5 bs [] (.d (.str ⟨bs.toArray⟩)) bs :=
  bc_str Try.lays169 Try.Builder_Extra_169 Try.func64 rfl rfl bs
end Go.Proofs.Ytdjdkkacbkfmeaa
