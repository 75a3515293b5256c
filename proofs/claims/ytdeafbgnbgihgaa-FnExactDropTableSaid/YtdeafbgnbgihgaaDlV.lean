/- slices.Delete at tables: the row is closed up. -/
import Derived.Test.YtdeafbgnbgihgaaVMBld
import Derived.Test.YtdeafbgnbgihgaaVMP
import Derived.Test.YtdeafbgnbgihgaaTT
import Derived.Test.YtdeafbgnbgihgaaDt
import Derived.Deep.RegionLaw
import Derived.Deep.LoopGhost
import Derived.Lib.SliceRun
import Derived.Shelf.RegionOpenPlain
import Derived.WalkKit
import Derived.Lib.Walk
set_option linter.unusedSimpArgs false
set_option linter.unusedVariables false
namespace Go.Proofs.Ytdeafbgnbgihgaa
open Go.RowKit Go.Shelf Go.Lib
/-- some cells of a row are written -/
theorem setCells_arr {t : TypeId} : ∀ (vs : List Value) (w : World) (g o : Nat) (arr : Array Value), w.heap[g]? = some (.cells arr t (0, 0)) → o + vs.length ≤ arr.size →
    ∃ arr' : Array Value, (w.setCells g o vs).heap[g]? = some (.cells arr' t (0, 0)) ∧ arr'.size = arr.size ∧ (∀ k, o ≤ k → k < o + vs.length → arr'[k]? = vs[k - o]?) ∧ (∀ k, k < o ∨ o + vs.length ≤ k → arr'[k]? = arr[k]?) ∧
      (∀ x, x ≠ g → (w.setCells g o vs).heap[x]? = w.heap[x]?) ∧ (w.setCells g o vs).heap.size = w.heap.size ∧ (w.setCells g o vs).os = w.os ∧ (w.setCells g o vs).tape = w.tape ∧ (w.setCells g o vs).output = w.output
  | [], w, g, o, arr, hg, hl => ⟨arr, hg, rfl, fun k h1 h2 => by simp at h2; omega, fun k _ => rfl, fun x _ => rfl, rfl, rfl, rfl, rfl⟩
  | v :: r, w, g, o, arr, hg, hl => by
    simp only [List.length_cons] at hl
    obtain ⟨arr', h1, h2, h3, h4, h5, h6, h7, h8, h9⟩ := setCells_arr r (w.setCell ⟨g, o, none⟩ v) g (o + 1) (arr.setIfInBounds o v) (setCell_heap0 hg o v) (by simp; omega)
    refine ⟨arr', h1, by rw [h2]; simp, fun k hk1 hk2 => ?_, fun k hk => ?_, fun x hx => ?_, ?_, h7, h8, h9⟩
    · simp only [List.length_cons] at hk2
      by_cases hk : k = o
      · subst hk
        rw [h4 k (.inl (by omega))]
        simp [show k < arr.size by omega]
      · rw [h3 k (by omega) (by omega), show k - o = (k - (o + 1)) + 1 by omega, List.getElem?_cons_succ]
    · simp only [List.length_cons] at hk
      rw [h4 k (by omega), Array.getElem?_setIfInBounds_ne (by omega)]
    · show ((w.setCell ⟨g, o, none⟩ v).setCells g (o + 1) r).heap[x]? = _
      rw [h5 x hx, setCell_other0 hx]
    · show ((w.setCell ⟨g, o, none⟩ v).setCells g (o + 1) r).heap.size = _
      rw [h6, setCell_size0]
/-- the cells of tables -/
def tbC : List TTable → List Value
  | [] => []
  | x :: t => .string x.fTag :: .string x.fData :: tbC t
theorem tbC_len : ∀ xs : List TTable, (tbC xs).length = 2 * xs.length
  | [] => rfl
  | x :: t => by simp only [tbC, List.length_cons, tbC_len t]; omega
theorem tbC_at : ∀ (xs : List TTable) (k : Nat) (x : TTable), xs[k]? = some x → (tbC xs)[2 * k]? = some (.string x.fTag) ∧ (tbC xs)[2 * k + 1]? = some (.string x.fData)
  | [], k, x, h => by simp at h
  | y :: t, 0, x, h => by obtain rfl : y = x := by simpa using h
                          exact ⟨rfl, rfl⟩
  | y :: t, k + 1, x, h => by
    have := tbC_at t k x (by simpa using h)
    rw [show 2 * (k + 1) = 2 * k + 1 + 1 by omega, tbC, List.getElem?_cons_succ, List.getElem?_cons_succ, List.getElem?_cons_succ, List.getElem?_cons_succ]
    exact this
theorem tbC_one : ∀ (xs : List TTable), ∀ v ∈ tbC xs, v.oneCell' = true
  | [], v, h => by simp [tbC] at h
  | x :: t, v, h => by
    simp only [tbC, List.mem_cons] at h
    rcases h with rfl | rfl | h
    · rfl
    · rfl
    · exact tbC_one t v h
/-- a row of tables, by its cells -/
theorem tab_cells {w : World} {arr : Array Value} : ∀ (xs : List TTable) (i : Nat) (F : List Nat), ownDe w arr 2 (xs.map TTable.D) i F → F = [] ∧ (∀ (k : Nat) (v : Value), (tbC xs)[k]? = some v → arr[i * 2 + k]? = some v) ∧ ∀ x ∈ xs, x.fTag.size ≤ maxLen ∧ x.fData.size ≤ maxLen
  | [], i, F, h => ⟨h, by simp [tbC], by simp⟩
  | x :: t, i, F, h => by
    obtain ⟨F1, F2, ces, rfl, h0, h1, h2, h3⟩ := h
    obtain ⟨rfl, ih, ih2⟩ := tab_cells t (i + 1) F2 h3
    have h2' : ownDs w [D.str x.fTag, D.str x.fData] F1 ces := h2
    obtain ⟨G1, G2, c1, c2, rfl, rfl, ⟨rfl, rfl, s1⟩, G3, G4, c3, c4, rfl, rfl, ⟨rfl, rfl, s2⟩, rfl, rfl⟩ := h2'
    refine ⟨rfl, fun k v hk => ?_, fun y hy => ?_⟩
    · rcases k with _ | _ | k
      · obtain rfl : Value.string x.fTag = v := by simpa [tbC] using hk
        exact h1 0 _ rfl
      · obtain rfl : Value.string x.fData = v := by simpa [tbC] using hk
        exact h1 1 _ rfl
      · have := ih k v (by simpa [tbC] using hk)
        rwa [show (i + 1) * 2 + k = i * 2 + (k + 1 + 1) by omega] at this
    · rcases List.mem_cons.1 hy with rfl | hy
      · exact ⟨s1, s2⟩
      · exact ih2 y hy
theorem cells_tab {w : World} {arr : Array Value} : ∀ (xs : List TTable) (i : Nat), (∀ (k : Nat) (v : Value), (tbC xs)[k]? = some v → arr[i * 2 + k]? = some v) → (∀ x ∈ xs, x.fTag.size ≤ maxLen ∧ x.fData.size ≤ maxLen) → ownDe w arr 2 (xs.map TTable.D) i []
  | [], i, _, _ => rfl
  | x :: t, i, h, hs => by
    obtain ⟨s1, s2⟩ := hs x (by simp)
    refine ⟨[], [], [.string x.fTag, .string x.fData], rfl, rfl, fun j v hj => ?_, ?_, cells_tab t (i + 1) (fun k v hk => ?_) (fun y hy => hs y (by simp [hy]))⟩
    · rcases j with _ | _ | j
      · exact h 0 v (by simpa [tbC] using hj)
      · exact h 1 v (by simpa [tbC] using hj)
      · simp at hj
    · show ownDs w [D.str x.fTag, D.str x.fData] [] _
      exact ⟨[], [], [_], [_], rfl, rfl, ⟨rfl, rfl, s1⟩, [], [], [_], [], rfl, rfl, ⟨rfl, rfl, s2⟩, rfl, rfl⟩
    · have := h (k + 1 + 1) v (by simpa [tbC] using hk)
      rwa [show i * 2 + (k + 1 + 1) = (i + 1) * 2 + k by omega] at this
/-- 'clear(s)', elements of any size -/
theorem run_clear_any {P : Program} (w : World) (t e ty : TypeId) (z : Value) (ht : P.underlying t = some (.slice e)) (hv : ∀ w, (zeroValue e).run P w = .ok z w) (b o n c : Nat) (hn : 0 < n) (zs : List Value) (hz : (Builtin.zeroCells z.cells n).toList = zs) (h1 : ∀ v ∈ zs, v.oneCell' = true)
    (hc : ∀ j, j < zs.length → (w.cell? ⟨b, o + j, none⟩).isSome = true) (hf : ∀ j, j < zs.length → w.frozen? ⟨b, o + j, none⟩ = false) :
    (Builtin.clear_ #[t] ty #[.slice (some ⟨b, o, none⟩) n c]).run P w = .ok (.tuple #[]) (w.setCells b o zs) := by
  have hst := run_storeCells_cells (P := P) b o zs 0 w (by simpa using hc) (by simpa using hf) h1
  simp only [Nat.add_zero] at hst
  obtain ⟨m, rfl⟩ : ∃ m, n = m + 1 := ⟨n - 1, by omega⟩
  simp [Builtin.clear_, run_underlying ht, hv, hz, hst]
theorem tbC_app : ∀ (xs ys : List TTable), tbC (xs ++ ys) = tbC xs ++ tbC ys
  | [], ys => rfl
  | x :: t, ys => by simp [tbC, tbC_app t ys]
theorem tbC_take : ∀ (i : Nat) (xs : List TTable), tbC (xs.take i) = (tbC xs).take (i * 2)
  | 0, xs => by simp [tbC]
  | i + 1, [] => by simp [tbC]
  | i + 1, x :: t => by rw [List.take_succ_cons, tbC, tbC_take i t, show (i + 1) * 2 = i * 2 + 1 + 1 by omega, tbC, List.take_succ_cons, List.take_succ_cons]
theorem zc_list : ∀ n : Nat, (Builtin.zeroCells #[.string .empty, .string .empty] n).toList = tbC (List.replicate n ⟨.empty, .empty⟩) := by
  intro n
  apply List.ext_getElem?
  intro k
  have hl : (tbC (List.replicate n ⟨.empty, .empty⟩)).length = 2 * n := by rw [tbC_len, List.length_replicate]
  by_cases hk : k < 2 * n
  · have e1 : (Builtin.zeroCells #[.string .empty, .string .empty] n).toList[k]? = some (.string .empty) := by
      have h2 : k % 2 = 0 ∨ k % 2 = 1 := by omega
      rcases h2 with h2 | h2 <;> simp [Builtin.zeroCells, show k < n * 2 by omega, h2]
    have h2 := tbC_at (List.replicate n ⟨.empty, .empty⟩) (k / 2) ⟨.empty, .empty⟩ (by rw [List.getElem?_replicate, if_pos (by omega)])
    rw [e1]
    rcases Nat.mod_two_eq_zero_or_one k with h | h
    · rw [show 2 * (k / 2) = k by omega] at h2; exact h2.1.symm
    · rw [show 2 * (k / 2) + 1 = k by omega] at h2; exact h2.2.symm
  · rw [List.getElem?_eq_none (by simp [Builtin.zeroCells]; omega), List.getElem?_eq_none (by omega)]
set_option maxHeartbeats 4000000 in
set_option maxRecDepth 1000000 in
theorem del_p (g cap i j : Nat) (xs : List TTable) (t : TypeId) (arr : Array Value) (w : World) (hg : w.heap[g]? = some (.cells arr t (0, 0))) (hn : xs.length ≤ cap) (hm : cap ≤ 9223372036854775807) (hcap : cap * 2 ≤ arr.size) (hij : i < j) (hj : j ≤ xs.length)
    (hel : ∀ (k : Nat) (v : Value), (tbC xs)[k]? = some v → arr[k]? = some v) :
    Calls Try.prog 23 #[.slice (some ⟨g, 0, none⟩) xs.length cap, .int .i64 i, .int .i64 j] w fun e w' => e = .returned (.slice (some ⟨g, 0, none⟩) (xs.length - (j - i)) cap) ∧
      w' = (w.drew.setCells g (0 + i * 2) (tbC (xs.drop j))).setCells g ((i + (xs.length - j)) * 2) (Builtin.zeroCells #[.string .empty, .string .empty] (j - i)).toList := by
  obtain ⟨i0, hi, hz0, hz1, hz2⟩ := info_parts (show (Try.prog.info? 35).map (fun i => (i.zero, i.size, i.bytes)) = some (some (.agg #[.string .empty, .string .empty]), 2, 32) by kernel_rfl)
  have hv : ∀ w, (zeroValue 35).run Try.prog w = .ok (.agg #[.string .empty, .string .empty]) w := fun w => by
    simp [zeroValue, typeInfo, hi, hz0]
  obtain ⟨news, hnews⟩ : ∃ news, news = tbC (xs.drop j) := ⟨_, rfl⟩
  have hlen : news.length = (xs.length - j) * 2 := by rw [hnews, tbC_len, List.length_drop]; omega
  have hget : ∀ (k : Nat) (u : Value), news[k]? = some u → arr[j * 2 + k]? = some u := fun k u hk => by
    refine hel _ _ ?_
    have key : ∀ (xs : List TTable) (j : Nat), (tbC xs).drop (j * 2) = tbC (xs.drop j) := by
      intro xs
      induction xs with
      | nil => intro j; simp [tbC]
      | cons x t ih =>
        intro j
        cases j with
        | zero => simp
        | succ j =>
          rw [show (j + 1) * 2 = j * 2 + 1 + 1 by omega, tbC, List.drop_succ_cons, List.drop_succ_cons, List.drop_succ_cons]
          exact ih j
    rw [hnews, ← key, List.getElem?_drop] at hk
    exact hk
  have hcl0 : ∀ k, k < cap * 2 → (w.drew.cell? ⟨g, k, none⟩).isSome = true ∧ w.drew.frozen? ⟨g, k, none⟩ = false := fun k hk => by
    have hgd : w.drew.heap[g]? = some (.cells arr t (0, 0)) := hg
    constructor
    · simp [World.cell?, hgd, show k < arr.size by omega]
    · simp [World.frozen?, hgd]
  obtain ⟨A, hA, hsrc⟩ : ∃ A : Addr, (if cap = j then some (⟨g, 0, none⟩ : Addr) else some ⟨g, 0 + j * 2, none⟩) = some A ∧ Hid (∀ t u, news[t]? = some u → w.drew.cell? (A.add t) = some u) := by
    by_cases h : cap = j
    · refine ⟨⟨g, 0, none⟩, by simp [h], fun t u hu => ?_⟩
      have h0 : news.length = 0 := by rw [hlen]; omega
      rw [List.length_eq_zero_iff.1 h0] at hu
      simp at hu
    · refine ⟨⟨g, 0 + j * 2, none⟩, by simp [h], fun t u hu => ?_⟩
      have hgd : w.drew.heap[g]? = some (.cells arr _ (0, 0)) := hg
      rw [Addr.add_lit]
      simp [World.cell?, hgd, hget t u hu]
  have s1 : Hid (news.length = (xs.length - j) * 2) := hlen
  have s2 : Hid (∀ u ∈ news, u.oneCell' = true) := by rw [hnews]; exact tbC_one _
  have s3 : Hid (∀ t, t < news.length → (w.drew.cell? ⟨g, 0 + i * 2 + t, none⟩).isSome = true ∧ w.drew.frozen? ⟨g, 0 + i * 2 + t, none⟩ = false) := by
    intro t ht
    rw [hlen] at ht
    exact hcl0 _ (by omega)
  obtain ⟨W1, hW1⟩ : ∃ W1, W1 = w.drew.setCells g (0 + i * 2) news := ⟨_, rfl⟩
  obtain ⟨zs, hzs⟩ : ∃ zs, zs = (Builtin.zeroCells #[.string .empty, .string .empty] (j - i)).toList := ⟨_, rfl⟩
  have hzl : zs.length = (j - i) * 2 := by rw [hzs]; simp [Builtin.zeroCells]
  have hzo : ∀ v ∈ zs, v.oneCell' = true := by
    rw [hzs, zc_list]; exact tbC_one _
  have hW2 : ∀ k, k < cap * 2 → (W1.cell? ⟨g, k, none⟩).isSome = true ∧ W1.frozen? ⟨g, k, none⟩ = false := fun k hk => by
    have hgd : w.drew.heap[g]? = some (.cells arr t (0, 0)) := hg
    obtain ⟨a1, e1, e2, -⟩ := setCells_arr news w.drew g (0 + i * 2) arr hgd (by rw [hlen]; omega)
    rw [← hW1] at e1
    constructor
    · simp [World.cell?, e1, show k < a1.size by omega]
    · simp [World.frozen?, e1]
  have hcl : ∀ ty, (Builtin.clear_ #[24] ty #[.slice (some ⟨g, (i + (xs.length - j)) * 2, none⟩) (xs.length - (i + (xs.length - j))) (cap - (i + (xs.length - j)))]).run Try.prog W1 = .ok (.tuple #[]) (W1.setCells g ((i + (xs.length - j)) * 2) zs) := fun ty =>
    run_clear_any W1 _ _ ty _ Try.underlying24 hv g _ _ _ (by omega) zs (by rw [hzs, show xs.length - (i + (xs.length - j)) = j - i by omega]; rfl) hzo
      (fun k hk => (hW2 _ (by omega)).1) (fun k hk => (hW2 _ (by omega)).2)
  have hic : i ≤ cap := by omega
  have hjc : j ≤ cap := by omega
  rw [← hnews, ← hzs, ← hW1]
  have hW : Hid (W1 = w.drew.setCells g (0 + i * 2) news) := hW1
  clear hW1 hget hnews hlen hel hcl0 hzs hzl hzo hv hW2
  have mixed : Try.prog.follows .mixedOrders = true := by kernel_rfl
  go_enter Try.func23, Try.ntmps23
  go_wp2_with fail
  go_region_law_o (refine step_append_room rfl (.tmp 22) (.tmp 25) 24 rfl 35 i0 2 Try.underlying24 hi hz1 g 0 i cap (by simp [Act.eval, Act.put]) A (xs.length - j) (cap - j) news (by simp [Act.eval, Act.put]; simpa using hA) s1.out hsrc.out s2.out (by omega) s3.out ?_; rw [← hW.out])
  go_wp2
  all_goals go_ret
  all_goals exact ⟨by rw [show xs.length - (j - i) = i + (xs.length - j) by omega]; rfl, rfl⟩
/-- what is left, then empty tables -/
def delL (i j : Nat) (xs : List TTable) : List TTable := xs.take i ++ xs.drop j ++ List.replicate (j - i) ⟨.empty, .empty⟩
theorem delL_len {i j : Nat} {xs : List TTable} (h1 : i ≤ j) (h2 : j ≤ xs.length) : (delL i j xs).length = xs.length := by simp [delL]; omega
theorem Delete_r (xs : List TTable) (i j : Nat) (hij : i < j) (hj : j ≤ xs.length) : PR Try.prog 23 2 (xs.map TTable.D) [.d (.int .i64 (i : Nat)), .d (.int .i64 (j : Nat))] (xs.length - (j - i)) ((delL i j xs).map TTable.D) where
  fn := ⟨_, Try.func23, rfl, rfl⟩
  len := by rw [List.length_map, List.length_map, delL_len (by omega) hj]
  le := by rw [List.length_map]; omega
  run w g t arr cap F args hg hnd hlt h1 h2 h3 hel hr := by
    obtain ⟨c1, r1, rfl, q1, c2, r2, rfl, q2, rfl⟩ := hr
    obtain ⟨rfl, -⟩ := rep_int.1 (rep_of_rep1 q1)
    obtain ⟨rfl, -⟩ := rep_int.1 (rep_of_rep1 q2)
    rw [List.length_map] at h1 ⊢
    obtain ⟨rfl, hc, hs⟩ := tab_cells xs 0 F hel
    refine (del_p g cap i j xs t arr w hg h1 h2 h3 hij hj (fun k v hk => by have := hc k v hk; rwa [Nat.zero_mul, Nat.zero_add] at this)).mono ?_
    rintro en w' ⟨rfl, rfl⟩
    have hgd : w.drew.heap[g]? = some (.cells arr t (0, 0)) := hg
    obtain ⟨a1, e1, e2, e3, e4, e5, e6, e7, e8, e9⟩ := setCells_arr (tbC (xs.drop j)) w.drew g (0 + i * 2) arr hgd (by rw [tbC_len, List.length_drop]; omega)
    rw [zc_list]
    obtain ⟨a2, f1, f2, f3, f4, f5, f6, f7, f8, f9⟩ := setCells_arr (tbC (List.replicate (j - i) ⟨.empty, .empty⟩)) _ g ((i + (xs.length - j)) * 2) a1 e1 (by rw [tbC_len, List.length_replicate]; omega)
    refine ⟨a2, [], rfl, ⟨by rw [f7, e7]; rfl, by rw [f8, e8]; rfl, by rw [f9, e9]; rfl, by rw [f6, e6]; exact Nat.le_refl _, fun x hx hm => ?_, by simp, by simp, fun x hx => ?_⟩, f1, by rw [f2, e2], cells_tab _ 0 (fun k v hk => ?_) (fun x hx => ?_)⟩
    · have hne : x ≠ g := by simpa using hm
      rw [f5 x hne, e5 x hne]; rfl
    · have : x = g := by simpa using hx
      subst this
      rw [f6, e6]; exact lt_of_heap hg
    · rw [Nat.zero_mul, Nat.zero_add]
      unfold delL at hk
      rw [tbC_app, tbC_app] at hk
      have l1 : (tbC (xs.take i)).length = i * 2 := by rw [tbC_len, List.length_take]; omega
      have l2 : (tbC (xs.drop j)).length = (xs.length - j) * 2 := by rw [tbC_len, List.length_drop]; omega
      have l3 : (tbC (List.replicate (j - i) ⟨.empty, .empty⟩)).length = (j - i) * 2 := by rw [tbC_len, List.length_replicate]; omega
      rw [List.getElem?_append] at hk
      split at hk
      · rename_i hk1
        rw [List.length_append, l1, l2] at hk1
        rw [f4 k (.inl (by omega))]
        rw [List.getElem?_append] at hk
        split at hk
        · rename_i hk2
          rw [l1] at hk2
          rw [e4 k (.inl (by omega))]
          rw [tbC_take, List.getElem?_take, if_pos hk2] at hk
          have := hc k v hk
          rwa [Nat.zero_mul, Nat.zero_add] at this
        · rename_i hk2
          rw [l1] at hk2 hk
          rw [e3 k (by omega) (by omega), show k - (0 + i * 2) = k - i * 2 by omega]
          exact hk
      · rename_i hk1
        rw [List.length_append, l1, l2] at hk1 hk
        have hlt := (List.getElem?_eq_some_iff.1 hk).1
        rw [l3] at hlt
        rw [f3 k (by omega) (by omega), show k - (i + (xs.length - j)) * 2 = k - (i * 2 + (xs.length - j) * 2) by omega]
        exact hk
    · unfold delL at hx
      simp only [List.mem_append, List.mem_replicate] at hx
      rcases hx with (hx | hx) | ⟨-, rfl⟩
      · exact hs x (List.mem_of_mem_take hx)
      · exact hs x (List.mem_of_mem_drop hx)
      · exact ⟨Nat.zero_le _, Nat.zero_le _⟩
  nil h := by
    have := congrArg List.length h
    rw [List.length_map] at this
    simp at this
    exact absurd this (by intro e; subst e; simp at hj; omega)
end Go.Proofs.Ytdeafbgnbgihgaa
