/- merged: several parts in one text. Leans on no more than they do. -/
import Derived.Test.YtcachhipflibkaaGreatVMTac
import Derived.Sort.Grow
import Derived.Test.YtcachhipflibkaaGreatShelf
import Derived.Test.YtcachhipflibkaaGreatFtX
import Derived.Test.YtcachhipflibkaaGreatLVBase
set_option linter.unusedSimpArgs false
set_option linter.unusedVariables false
namespace Go.Proofs.YtcachhipflibkaaGreat
open Go.RowKit
structure PR (P : Program) (f : FuncId) (n : Nat) (xs : List D) (rest : List V) (m : Nat) (ys : List D) : Prop where
  fn : ∃ fn, P.funcs[f]? = some fn ∧ (fn.name == "runtime.NumGoroutine") = false ∧ fn.body.isNone = false
  len : ys.length = xs.length
  le : m ≤ xs.length
  run : ∀ (w : World) (g : Nat) (t : TypeId) (arr : Array Value) (cap : Nat) (F : List Nat) (args : List Value), w.heap[g]? = some (.cells arr t (0, 0)) → (g :: F).Nodup → (∀ x ∈ F, x < w.heap.size) →
    xs.length ≤ cap → cap ≤ maxLen → cap * n ≤ arr.size → ownDe w arr n xs 0 F → repT w [none] [.gone] rest args →
    Calls P f (.slice (some ⟨g, 0, none⟩) xs.length cap :: args).toArray w fun en w' => ∃ arr' F', en = .returned (.slice (some ⟨g, 0, none⟩) m cap) ∧ Kept w w' (g :: F) (g :: F') ∧
      w'.heap[g]? = some (.cells arr' t (0, 0)) ∧ arr'.size = arr.size ∧ ownDe w' arr' n ys 0 F'
  nil : xs = [] → ∀ (w : World) (a : Option Addr) (cap : Nat) (args : List Value), cap ≤ maxLen → (a = none → cap = 0) → repT w [none] [.gone] rest args →
    Calls P f (.slice a 0 cap :: args).toArray w fun en w' => en = .returned (.slice a 0 cap) ∧ Ext w w'
theorem PR.call {P : Program} {f : FuncId} {n n0 : Nat} {xs ys : List D} {rest : List V} {m : Nat} (pk : PR P f n xs rest m ys) (hn0 : xs ≠ [] → n0 = n) {b len : Nat} {e : Env} {h : List Blk} {K : V → Env → List Blk → Prop}
    (hb : h[b]? = some (.arr n0 xs true)) (hl : len = xs.length) (hb0 : Nat.ble 1 b = true) (hr : plains rest = true) (H : K (.own b 0 m) e (h.set b (.arr n0 ys true))) : CallM P f (.own b 0 len :: rest) e h K where
  fn := pk.fn
  run B X N M a w args R hargs := by
    obtain ⟨c0, args, rfl, h1, h2⟩ := hargs
    have h2' := plains_rep (w' := w) (M' := [none]) (h' := [.gone]) rest args hr h2
    have hb1 : 1 ≤ b := Nat.le_of_ble_eq_true hb0
    subst hl
    obtain ⟨ad, cap, rfl, k1, k2, k3, k4⟩ := rep_own.1 (rep_of_rep1 h1)
    by_cases hx : xs = []
    · have hy : ys = [] := List.eq_nil_of_length_eq_zero (by rw [pk.len, hx]; rfl)
      subst hx
      subst hy
      have hm : m = 0 := by have := pk.le; simpa using this
      subst hm
      refine (pk.nil rfl w ad cap args k2 k3 h2').mono ?_
      rintro en w' ⟨rfl, q2⟩
      rw [show h.set b (.arr n0 [] true) = h from set_self h b _ hb] at H
      have mv := q2.mv (M := M) (h := h) R.inv.hi
      exact ⟨.own b 0 0, _, e, h, M, rfl, H, R.step (R.ext.trans q2) (R.inv.ext q2) mv rfl rfl, rep_mv mv (.own b 0 0) _ trivial (rep_of_rep1 h1)⟩
    · obtain rfl := hn0 hx
      have hn : nOf h b = n0 := by simp [nOf, hb]
      have hc : cap ≠ 0 := fun q => hx (List.eq_nil_of_length_eq_zero (by omega))
      rcases k4 with k4 | ⟨g, F, arr, t, m1, m2, m3, m4⟩
      · exact absurd k4 hc
      · subst m2
        obtain ⟨arr0, t0, r1, r2, r3⟩ : ∃ arr t, w.heap[g]? = some (.cells arr t (0, 0)) ∧ xs.length * n0 ≤ arr.size ∧ (if true = true then ownDe w arr n0 xs 0 F else F = [] ∧ extDe M.O w arr n0 xs 0) := R.inv.blk b _ _ hb m1
        rw [m3] at r1
        cases r1
        rw [if_pos rfl] at r3
        have nd : (g :: F).Nodup := by
          have := mO_nodup R.inv m1
          exact this
        rw [hn, Nat.zero_mul]
        refine (pk.run w g t arr cap F args m3 nd (fun x hx => R.inv.hi x (mem_O m1 (by simp [mO, hx]))) k1 k2 (by rw [Nat.zero_add, hn] at m4; exact m4) r3 h2').mono ?_
        rintro en w' ⟨arr', F', rfl, q2, q3, q4, q5⟩
        have hxB : Ext B w' := by
          have hlo := R.inv.lo b _ _ hb m1 rfl
          refine Below.trans R.ext ⟨q2.os, q2.tape, q2.output, q2.size, fun k hk => q2.ch k (Nat.lt_of_lt_of_le hk R.base) (fun hm => ?_)⟩
          have := hlo k hm
          omega
        have hnf : nOf (h.set b (.arr n0 ys true)) b = n0 := by
          unfold nOf; rw [List.getElem?_set_self (List.getElem?_eq_some_iff.1 hb).1]
        obtain ⟨M', R', hM', _⟩ := R.reset (w' := w') hxB m1 (by omega) hb (.inl rfl) [] [] (by simp) (by simp) (by simp) (by simp) (m' := some (g, F')) q2.nd
          (fun x hx => (q2.sub x hx).imp id (fun q => .inr q)) q2.hi q2.size (fun x hx hxm => q2.ch x hx hxm) (k' := .arr n0 ys true) rfl
          (fun _ g1 F1 e1 => by
            cases e1
            refine ⟨⟨F', rfl⟩, by rw [hnf, hn], fun arr1 t1 hg1 => ?_⟩
            rw [m3] at hg1
            cases hg1
            exact ⟨arr', q3, q4⟩)
          (fun M' h' _ => ⟨arr', t, q3, by
            have : xs.length * n0 ≤ cap * n0 := Nat.mul_le_mul_right n0 k1
            rw [pk.len, q4]; rw [Nat.zero_add, hn] at m4; omega, by rw [if_pos rfl]; exact q5⟩)
        refine ⟨.own b 0 m, _, e, _, M', rfl, H, R', rep_own.2 ⟨_, cap, rfl, Nat.le_trans pk.le k1, k2, by simp, .inr ⟨g, F', arr', t, hM', ?_, q3, ?_⟩⟩⟩
        · rw [Nat.zero_mul]
        · rw [hnf, q4]; rw [hn] at m4; exact m4
theorem CallW.useP {P : Program} {f : FuncId} {n m : Nat} {xs ys : List D} {rest : List V} (pk : PR P f n xs rest m ys) {b len : Nat} {e : Env} {h : List Blk} {K : V → Env → List Blk → Prop}
    (hb : h[b]? = some (.arr n xs true)) (hl : len = xs.length) (hb0 : Nat.ble 1 b = true) (hr : plains rest = true) (H : K (.own b 0 m) e (h.set b (.arr n ys true))) : CallW P false f (.own b 0 len :: rest) e h K :=
  ⟨.inr ⟨rfl, pk.call (fun _ => rfl) hb hl hb0 hr H⟩⟩
theorem clp_ {P : Program} {f : FuncId} {e : Env} {h : List Blk} {K : V → Env → List Blk → Prop} {Q : Prop} {n m b len : Nat} {xs ys : List D} {rest : List V} (pk : PR P f n xs rest m ys) (H : Q) (hb : h[b]? = some (.arr n xs true) := by rfl) (hl : len = xs.length := by (first | rfl | exact (List.length_map _).symm | (simp; done) | omega)) (hb0 : Nat.ble 1 b = true := by rfl)
    (hr : plains rest = true := by rfl) (hk : Q → K (.own b 0 m) e (h.set b (.arr n ys true)) := by (intro H; (conv => whnf); exact H)) : CallW P false f (.own b 0 len :: rest) e h K := CallW.useP pk hb hl hb0 hr (hk H)
theorem own_ints {w : World} {arr : Array Value} : ∀ (zs : List Int) (i : Nat) (F : List Nat), ownDe w arr 1 (zs.map (D.int .i64)) i F → F = [] ∧ ∀ (j : Nat) (z : Int), zs[j]? = some z → arr[i + j]? = some (.int .i64 z) ∧ inR .i64 z
  | [], i, F, h => ⟨h, by simp⟩
  | z :: zs, i, F, h => by
    obtain ⟨F1, F2, ces, rfl, -, h1, ⟨rfl, rfl, hz⟩, h3⟩ := h
    obtain ⟨rfl, ih⟩ := own_ints zs (i + 1) F2 h3
    refine ⟨rfl, fun j y hj => ?_⟩
    cases j with
    | zero =>
      obtain rfl : z = y := by simpa using hj
      have := h1 0 _ rfl
      rw [Nat.mul_one, Nat.add_zero] at this
      exact ⟨this, hz⟩
    | succ j =>
      have := ih j y (by simpa using hj)
      rwa [show i + 1 + j = i + (j + 1) by omega] at this
theorem ints_own {w : World} {arr : Array Value} : ∀ (zs : List Int) (i : Nat), (∀ (j : Nat) (z : Int), zs[j]? = some z → arr[i + j]? = some (.int .i64 z) ∧ inR .i64 z) → ownDe w arr 1 (zs.map (D.int .i64)) i []
  | [], i, _ => rfl
  | z :: zs, i, h => by
    refine ⟨[], [], [.int .i64 z], rfl, rfl, fun j v hj => ?_, ⟨rfl, rfl, (h 0 z rfl).2⟩, ints_own zs (i + 1) fun j y hj => ?_⟩
    · cases j with
      | zero =>
        obtain rfl : Value.int .i64 z = v := by simpa using hj
        have := (h 0 z rfl).1
        rw [Nat.add_zero] at this ⊢; rwa [Nat.mul_one]
      | succ j => simp at hj
    · have := h (j + 1) y (by simpa using hj)
      rwa [show i + (j + 1) = i + 1 + j by omega] at this
theorem holds_ints {w : World} {g : Nat} {arr : Array Value} {t : TypeId} {zs : List Int} {F : List Nat} (hg : w.heap[g]? = some (.cells arr t (0, 0))) (h : ownDe w arr 1 (zs.map (D.int .i64)) 0 F) : Sort.Holds (Value.int .i64) w g 0 zs.toArray := by
  intro j hj
  have hj' : j < zs.length := by simpa using hj
  have := ((own_ints zs 0 F h).2 j zs[j] (List.getElem?_eq_getElem hj')).1
  rw [Nat.zero_add] at this ⊢
  refine ⟨?_, by simp [World.frozen?, hg]⟩
  rw [World.cell?, hg]
  simp [this, hj']
theorem put_kept {w : World} {g : Nat} {arr : Array Value} {t : TypeId} {ys : List Int} (hg : w.heap[g]? = some (.cells arr t (0, 0))) (hl : ys.length ≤ arr.size) (hy : ∀ y ∈ ys, inR .i64 y) (n : Nat) (os : Array Obj) :
    ∃ arr' : Array Value, Kept w (Sort.grow (Sort.putRow (Value.int .i64) (Sort.ahead w n) g 0 ys.toArray) os) [g] [g] ∧ (Sort.grow (Sort.putRow (Value.int .i64) (Sort.ahead w n) g 0 ys.toArray) os).heap[g]? = some (.cells arr' t (0, 0)) ∧ arr'.size = arr.size ∧
      ownDe (Sort.grow (Sort.putRow (Value.int .i64) (Sort.ahead w n) g 0 ys.toArray) os) arr' 1 (ys.map (D.int .i64)) 0 [] := by
  have hlt := lt_of_heap hg
  have hsz : (Sort.putRow (Value.int .i64) (Sort.ahead w n) g 0 ys.toArray).heap.size = w.heap.size := by simp [Sort.putRow, Sort.mapBlock, Sort.ahead]
  have hget : ∀ x, x < w.heap.size → (Sort.grow (Sort.putRow (Value.int .i64) (Sort.ahead w n) g 0 ys.toArray) os).heap[x]? = (Sort.putRow (Value.int .i64) (Sort.ahead w n) g 0 ys.toArray).heap[x]? := fun x hx => by
    show (_ ++ os)[x]? = _
    rw [Array.getElem?_append_left (by rw [hsz]; exact hx)]
  have hme : (Sort.putRow (Value.int .i64) (Sort.ahead w n) g 0 ys.toArray).heap[g]? = some (.cells (Sort.putCells (Value.int .i64) 0 ys.toArray arr) t (0, 0)) := by
    simp [Sort.putRow, Sort.mapBlock, Sort.ahead, Array.getElem?_modify, hg, Sort.onCells]
  refine ⟨Sort.putCells (Value.int .i64) 0 ys.toArray arr, ⟨rfl, rfl, rfl, ?_, fun x hx hm => ?_, by simp, by simp, fun x hx => ?_⟩, by rw [hget g hlt, hme], by simp [Sort.putCells], ints_own ys 0 fun j z hz => ?_⟩
  · show _ ≤ (_ ++ os).size
    rw [Array.size_append, hsz]; omega
  · have hne : x ≠ g := by simpa using hm
    rw [hget x hx]
    simp [Sort.putRow, Sort.mapBlock, Sort.ahead, Array.getElem?_modify, Ne.symm hne]
  · have : x = g := by simpa using hx
    subst this
    show _ < (_ ++ os).size
    rw [Array.size_append, hsz]; omega
  · have hj : j < ys.length := (List.getElem?_eq_some_iff.1 hz).1
    refine ⟨?_, hy z (List.mem_of_getElem? hz)⟩
    have hja : j < arr.size := by omega
    rw [Nat.zero_add]
    have hz' : ys[j] = z := by rw [List.getElem?_eq_getElem hj] at hz; simpa using hz
    simp [Sort.putCells, Array.getElem?_mapIdx, Array.getElem?_eq_getElem hja, hj, hz']
def srt (xs : List Int) : List Int := xs.mergeSort fun x y => decide (x ≤ y)
def cls (xs : List Int) : List Int := Lib.compact (srt xs)
theorem srt_len (xs : List Int) : (srt xs).length = xs.length := List.length_mergeSort xs
theorem srt_mem {xs : List Int} {x : Int} : x ∈ srt xs ↔ x ∈ xs := List.mem_mergeSort
theorem srt_pw (xs : List Int) : (srt xs).Pairwise (fun x y => x ≤ y) := by
  have := List.pairwise_mergeSort (le := fun x y : Int => decide (x ≤ y)) (by intro a b c h1 h2; simp at h1 h2 ⊢; omega) (by intro a b; simp; omega) xs
  exact this.imp (by intro a b h; simpa using h)
theorem cmp_sub (zs : List Int) : List.Sublist (Lib.compact zs) zs := by
  have h1 : List.Sublist (((List.range zs.length).filter (Lib.keeps zs.toArray)).map (zs.toArray[·]!)) ((List.range zs.length).map (zs.toArray[·]!)) := List.Sublist.map _ List.filter_sublist
  have h2 : (List.range zs.length).map (zs.toArray[·]!) = zs := by
    apply List.ext_getElem
    · simp
    · intro i h1 h2; simp [h2]
  rw [h2] at h1
  exact h1
theorem cmp_mem {zs : List Int} : ∀ (j : Nat), j < zs.length → zs.toArray[j]! ∈ Lib.compact zs
  | j, hj => by
    by_cases hk : Lib.keeps zs.toArray j = true
    · exact List.mem_map.2 ⟨j, List.mem_filter.2 ⟨by simpa using hj, hk⟩, rfl⟩
    · have h0 : j ≠ 0 := fun e => hk (Lib.keeps_lt_one _ j (by omega))
      have he : zs.toArray[j]! = zs.toArray[j - 1]! := by
        apply Classical.byContradiction
        intro hne
        exact hk (Lib.keeps_pos hne)
      rw [he]
      exact cmp_mem (j - 1) (by omega)
theorem cls_mem {xs : List Int} {x : Int} : x ∈ cls xs ↔ x ∈ xs := by
  constructor
  · intro h; exact srt_mem.1 ((cmp_sub _).subset h)
  · intro h
    obtain ⟨j, hj, e⟩ := List.getElem_of_mem (srt_mem.2 h)
    have := cmp_mem (zs := srt xs) j hj
    simp only [hj, List.getElem!_toArray, getElem!_pos] at this
    rw [e] at this
    exact this
theorem cls_len (xs : List Int) : (cls xs).length ≤ xs.length := by
  rw [← srt_len xs]; exact (cmp_sub _).length_le
theorem cls_last {xs : List Int} {k : Nat} {z : Int} (hk : k + 1 = (cls xs).length) (hz : (cls xs)[k]? = some z) : ∀ x ∈ xs, x ≤ z := by
  intro x hx
  have hp : (cls xs).Pairwise (fun x y => x ≤ y) := (srt_pw xs).sublist (cmp_sub _)
  obtain ⟨j, hj, e⟩ := List.getElem_of_mem (cls_mem.2 hx)
  have hz' : (cls xs)[k]'(by omega) = z := by rw [List.getElem?_eq_getElem (by omega)] at hz; simpa using hz
  rcases Nat.lt_or_ge j k with h | h
  · have := List.pairwise_iff_getElem.1 hp j k hj (by omega) h
    omega
  · have : j = k := by omega
    subst this
    omega
theorem inR_ints {xs : List Int} {w : World} {arr : Array Value} {F : List Nat} (h : ownDe w arr 1 (xs.map (D.int .i64)) 0 F) : ∀ x ∈ xs, inR .i64 x := fun x hx => by
  obtain ⟨j, hj, e⟩ := List.getElem_of_mem hx
  exact ((own_ints xs 0 F h).2 j x (by rw [List.getElem?_eq_getElem hj, e])).2
theorem grow0 (w : World) : Sort.grow w #[] = w := by simp [Sort.grow]
theorem sort_k (xs : List Int) (hl : xs.length ≤ 1000000) : PK Tryz.prog 203 1 (xs.map (D.int .i64)) [] (.tup []) ((srt xs).map (D.int .i64)) where
  fn := ⟨_, Tryz.func203, rfl, rfl⟩
  len := by simp [srt_len]
  run := by
    intro w g t arr cap F args hg hnd hF hc1 hc2 hc3 ho ha
    cases (show args = [] from ha)
    obtain ⟨rfl, -⟩ := own_ints xs 0 F ho
    rw [List.length_map] at hc1 ⊢
    refine (Tryz.slices_Sort_int g 0 cap xs w (holds_ints hg ho) (lt_of_heap hg) (by omega)).mono ?_
    rintro en w' ⟨rfl, n, os, rfl⟩
    obtain ⟨arr', k1, k2, k3, k4⟩ := put_kept (ys := srt xs) hg (by rw [srt_len]; omega) (fun y hy => inR_ints ho y (srt_mem.1 hy)) n os
    exact ⟨_, arr', [], rfl, ⟨[], rfl, rfl⟩, k1, k2, k3, k4⟩
  nil := by
    intro hx w a cap args h1 h2 ha
    cases (show args = [] from ha)
    refine (Tryz.slices_Sort_int_none a cap w).mono ?_
    rintro en w' ⟨rfl, rfl⟩
    exact ⟨_, rfl, ⟨[], rfl, rfl⟩, Ext.refl _⟩
theorem compact_r (xs : List Int) (hl : xs.length ≤ 1000000) : PR Tryz.prog 204 1 (xs.map (D.int .i64)) [] (Lib.compact xs).length ((Lib.compact xs ++ List.replicate (xs.length - (Lib.compact xs).length) 0).map (D.int .i64)) where
  fn := ⟨_, Tryz.func204, rfl, rfl⟩
  len := by have := (cmp_sub xs).length_le; simp; omega
  le := by have := (cmp_sub xs).length_le; simpa using this
  run := by
    intro w g t arr cap F args hg hnd hF hc1 hc2 hc3 ho ha
    cases (show args = [] from ha)
    obtain ⟨rfl, -⟩ := own_ints xs 0 F ho
    rw [List.length_map] at hc1 ⊢
    have hle := (cmp_sub xs).length_le
    refine (Tryz.slices_Compact_int g 0 cap xs w (holds_ints hg ho) (by omega) hc1).mono ?_
    rintro en w' ⟨rfl, n, rfl⟩
    obtain ⟨arr', k1, k2, k3, k4⟩ := put_kept (ys := Lib.compact xs ++ List.replicate (xs.length - (Lib.compact xs).length) 0) hg (by simp; omega) (fun y hy => by
      rcases List.mem_append.1 hy with hy | hy
      · exact inR_ints ho y ((cmp_sub xs).subset hy)
      · rw [List.eq_of_mem_replicate hy]; exact ⟨by decide, by decide⟩) n #[]
    rw [grow0] at k1 k2 k4
    exact ⟨arr', [], rfl, k1, k2, k3, k4⟩
  nil := by
    intro hx w a cap args h1 h2 ha
    cases (show args = [] from ha)
    refine (Tryz.slices_Compact_int_empty a cap w).mono ?_
    rintro en w' ⟨rfl, rfl⟩
    exact ⟨rfl, Ext.refl _⟩
theorem classOf_v (xs : List Int) (hl : xs.length ≤ 1000000) : PC Tryz.prog 161 [.d (.lst (xs.map (D.int .i64)))] (.own 1 0 (cls xs).length) [.arr 1 ((cls xs ++ List.replicate (xs.length - (cls xs).length) 0).map (D.int .i64)) true] := by
  refine pc_intro ttOk (by kernel_rfl) Tryz.func161 rfl (by kernel_rfl) (by kernel_rfl) (by kernel_rfl) (fun hw => ?_)
  have c1 := cloneI_v xs hl
  have c2 := sort_k xs hl
  have c3 := compact_r (srt xs) (by rw [srt_len]; exact hl)
  rw [srt_len] at c3
  have hL : (xs.map (D.int .i64)).length = xs.length := List.length_map _
  have hL2 : ((srt xs).map (D.int .i64)).length = xs.length := by rw [List.length_map, srt_len]
  (conv => whnf)
  (repeat' (first | (refine stg_ ?_) | (refine cla_ (c1) ?_) | (refine clk_ (c2) ?_) | (refine clp_ (c3) ?_) | (refine br_ (fun hbr => ?_) (fun hbr => ?_))))
  (refine ⟨⟨[some 1], ⟨by decide, rfl, trivial, trivial⟩, by decide, rfl, ?_⟩⟩; (conv => whnf); exact ⟨by decide, rfl⟩)
theorem fmt_len {α β : Type} {m : Nat} {f : α → List β} {xs : List α} (h : ∀ x ∈ xs, (f x).length ≤ m) (k : Nat) : ((xs.take k).flatMap f).length ≤ xs.length * m := by
  have h1 := flatMap_len (m := m) (f := f) (xs.take k) (fun x hx => h x (List.mem_of_mem_take hx))
  have h2 : (xs.take k).length ≤ xs.length := by simp; omega
  exact Nat.le_trans h1 (Nat.mul_le_mul_right m h2)
theorem fmt_succ {α β : Type} {f : α → List β} {xs : List α} {k : Nat} {x : α} (hx : xs[k]? = some x) : (xs.take (k + 1)).flatMap f = (xs.take k).flatMap f ++ f x := by
  rw [take_snoc_get hx, List.flatMap_append]; simp
theorem flt_succ {α : Type} {xs : List (List α)} {k : Nat} {x : List α} (hx : xs[k]? = some x) : (xs.take (k + 1)).flatten = (xs.take k).flatten ++ x := by
  rw [take_snoc_get hx, List.flatten_append]; simp
theorem flt_len {α : Type} {m : Nat} {xs : List (List α)} (h : ∀ x ∈ xs, x.length ≤ m) (k : Nat) : (xs.take k).flatten.length ≤ xs.length * m := by
  have h1 := flatten_len (m := m) (xs.take k) (fun x hx => h x (List.mem_of_mem_take hx))
  have h2 : (xs.take k).length ≤ xs.length := by simp; omega
  exact Nat.le_trans h1 (Nat.mul_le_mul_right m h2)
theorem flr_succ {α : Type} {p : α → Bool} {xs : List α} {k : Nat} {x : α} (hx : xs[k]? = some x) : (xs.take (k + 1)).filter p = (xs.take k).filter p ++ (if p x = true then [x] else []) := by
  rw [take_snoc_get hx, List.filter_append]
  congr 1
  by_cases h : p x = true <;> simp [h]
set_option maxHeartbeats 8000000 in
theorem glyphsUsed_v (f : TFeatures) (hB : ftB f = true) : PC Tryz.prog 108 [.d f.D] (.own 1 0 (cls (usG f)).length) [.arr 1 ((cls (usG f) ++ List.replicate ((usG f).length - (cls (usG f)).length) 0).map (D.int .i64)) true] := by
  refine pc_intro ttOk (by kernel_rfl) Tryz.func108 rfl (by kernel_rfl) (by kernel_rfl) (by kernel_rfl) (fun hw => ?_)
  have F := ftB_F hB
  have hLk : (f.fLookups.map TLookup.D).length = f.fLookups.length := List.length_map _
  have hKn : (f.fKerns.map TKern.D).length = f.fKerns.length := List.length_map _
  have hMk : (f.fMarks.map TMarkRule.D).length = f.fMarks.length := List.length_map _
  have hJn : (f.fJoins.map TJoin.D).length = f.fJoins.length := List.length_map _
  have n1 := F.lkn
  have n2 := F.knn
  have n3 := F.marn
  have n4 := F.jnn
  (conv => whnf)
  refine LoopW.go (α := Nat) (fun k => [(1, .pB 1 [] 0), (3, .own 2 0 (((f.fLookups.take k).flatMap lkGl).map (D.int .i64)).length), (19, .d (.lst (f.fLookups.map TLookup.D))), (20, .d (.int .i64 (f.fLookups.map TLookup.D).length)), (21, .d (.int .i64 k))]) (fun k => [.gone, .box (.d f.D), .arr 1 (((f.fLookups.take k).flatMap lkGl).map (D.int .i64)) true]) (fun k => k ≤ f.fLookups.length) (fun k => f.fLookups.length - k) 0 (Weak.trans (Weak.adopt (k := 3) rfl 1 true) (Weak.cov ⟨rfl, rfl, rfl, rfl, rfl, trivial⟩ ⟨trivial, rfl, rfl, trivial⟩ rfl)) (by omega) (fun k hk => ?_)
  have b1 := fmt_len (m := 19360) (f := lkGl) (xs := f.fLookups) (fun x hx => lkGl_len (F.lk x hx)) k
  have b1' := Nat.mul_le_mul_right 19360 n1
  (conv => whnf)
  (refine br_ (fun h1 => ?_) (fun h1 => ?_) <;> (repeat (refine stg_ ?_)))
  · obtain ⟨l, hl⟩ := at_lt' (xs := f.fLookups) (k := k) (by omega)
    have hlB := F.lk l (List.mem_of_getElem? hl)
    obtain ⟨hrB, hrN⟩ := lkB_ru hlB
    have hRu : (l.fRules.map TRule.D).length = l.fRules.length := List.length_map _
    have e1 := fmt_succ (f := lkGl) hl
    generalize (f.fLookups.take k).flatMap lkGl = O1 at *
    (repeat (refine stg_ ?_))
    refine LoopW.go (α := Nat) (fun j => [(1, .pB 1 [] 0), (3, .own 2 0 ((O1 ++ (l.fRules.take j).flatMap ruGl).map (D.int .i64)).length), (5, .pB 3 [] 0), (19, .d (.lst (f.fLookups.map TLookup.D))), (20, .d (.int .i64 (f.fLookups.map TLookup.D).length)), (21, .d (.int .i64 k)), (26, .d (.lst (l.fRules.map TRule.D))), (27, .d (.int .i64 (l.fRules.map TRule.D).length)), (28, .d (.int .i64 j))]) (fun j => [.gone, .box (.d f.D), .arr 1 ((O1 ++ (l.fRules.take j).flatMap ruGl).map (D.int .i64)) true, .box (.d l.D)]) (fun j => j ≤ l.fRules.length) (fun j => l.fRules.length - j) 0 (Weak.cov ⟨rfl, by (show V.own 2 0 (O1.map (D.int .i64)).length = _; simp), rfl, rfl, rfl, rfl, rfl, rfl, rfl, trivial⟩ ⟨trivial, rfl, by simp, rfl, trivial⟩ rfl) (by omega) (fun j hj => ?_)
    have b2 := fmt_len (m := 484) (f := ruGl) (xs := l.fRules) (fun x hx => ruGl_len (hrB x hx)) j
    have b2' := Nat.mul_le_mul_right 484 hrN
    (conv => whnf)
    (refine br_ (fun h2 => ?_) (fun h2 => ?_) <;> (repeat (refine stg_ ?_)))
    · obtain ⟨r, hr⟩ := at_lt' (xs := l.fRules) (k := j) (by omega)
      obtain ⟨q1, q2, q3, q4, -⟩ := ruB_fcs (hrB r (List.mem_of_getElem? hr))
      have e2 := fmt_succ (f := ruGl) hr
      have e3 : ruGl r = (r.fBefore ++ r.fInput ++ r.fAfter).flatten ++ r.fOutput := rfl
      have e4 : [r.fBefore, r.fInput, r.fAfter].flatten = r.fBefore ++ r.fInput ++ r.fAfter := by simp
      have e5 : lenS [r.fBefore, r.fInput, r.fAfter] = (r.fBefore ++ r.fInput ++ r.fAfter).length := by simp [lenS]
      have c1 := catL_v [r.fBefore, r.fInput, r.fAfter] (by omega)
      rw [e4, e5] at c1
      have b3 := fun i => flt_len (m := 40) (xs := r.fBefore ++ r.fInput ++ r.fAfter) (fun c hc => fcB_len (q1 c hc)) i
      generalize r.fBefore ++ r.fInput ++ r.fAfter = cs at *
      have hCs : (cs.map (lstD (D.int .i64))).length = cs.length := List.length_map _
      have hO : (O1 ++ (l.fRules.take j).flatMap ruGl).length ≤ 154880 + 19360 := by rw [List.length_append]; omega
      generalize hO2 : O1 ++ (l.fRules.take j).flatMap ruGl = O2 at *
      (repeat' (first | (refine stg_ ?_) | (refine clg_ (c1) ?_) | (refine br_ (fun hbr => ?_) (fun hbr => ?_))))
      refine LoopW.go (α := Nat) (fun i => [(1, .pB 1 [] 0), (3, .own 2 0 ((O2 ++ (cs.take i).flatten).map (D.int .i64)).length), (5, .pB 3 [] 0), (7, .pB 4 [] 0), (19, .d (.lst (f.fLookups.map TLookup.D))), (20, .d (.int .i64 (f.fLookups.map TLookup.D).length)), (21, .d (.int .i64 k)), (26, .d (.lst (l.fRules.map TRule.D))), (27, .d (.int .i64 (l.fRules.map TRule.D).length)), (28, .d (.int .i64 j)), (39, .own 6 0 cs.length), (40, .d (.int .i64 cs.length)), (41, .d (.int .i64 i))]) (fun i => [.gone, .box (.d f.D), .arr 1 ((O2 ++ (cs.take i).flatten).map (D.int .i64)) true, .box (.d l.D), .box (.d r.D), .arr 1 [] true, .arr 1 (cs.map (lstD (D.int .i64))) false]) (fun i => i ≤ cs.length) (fun i => cs.length - i) 0 (Weak.cov ⟨rfl, by (show V.own 2 0 (O2.map (D.int .i64)).length = _; simp), rfl, rfl, rfl, rfl, rfl, rfl, rfl, rfl, rfl, rfl, rfl, trivial⟩ ⟨trivial, rfl, by simp, rfl, rfl, rfl, rfl, trivial⟩ rfl) (by omega) (fun i hi => ?_)
      have b3 := b3 i
      have b3' := Nat.mul_le_mul_right 40 q2
      (conv => whnf)
      (refine br_ (fun h3 => ?_) (fun h3 => ?_) <;> (repeat (refine stg_ ?_)))
      · obtain ⟨c, hc⟩ := at_lt' (xs := cs) (k := i) (by omega)
        have hc' : (cs.map (lstD (D.int .i64)))[i]? = some (lstD (D.int .i64) c) := by rw [List.getElem?_map, hc]; rfl
        have hcl := fcB_len (q1 c (List.mem_of_getElem? hc))
        have e6 : (O2 ++ (cs.take (i + 1)).flatten).map (D.int .i64) = (O2 ++ (cs.take i).flatten).map (D.int .i64) ++ c.map (D.int .i64) := by rw [flt_succ hc, ← List.append_assoc, List.map_append]
        have hO3 : (O2 ++ (cs.take i).flatten).length ≤ 154880 + 19360 + 480 := by rw [List.length_append]; omega
        generalize (O2 ++ (cs.take i).flatten) = O3 at *
        (repeat' (first | (refine stg_ ?_) | fail | (refine br_ (fun hbr => ?_) (fun hbr => ?_))))
        refine NextW.go (i + 1) (Weak.cov ⟨rfl, ?_, rfl, rfl, rfl, rfl, rfl, rfl, rfl, rfl, rfl, rfl, rfl, trivial⟩ ⟨trivial, rfl, ?_, rfl, rfl, rfl, rfl, trivial⟩ rfl) (by omega) (by omega)
        · rw [e6]; simp only [List.length_append]; rfl
        · rw [e6, List.take_length]
      · obtain rfl : i = cs.length := by omega
        rw [List.take_length] at *
        have hO3 : (O2 ++ cs.flatten).length ≤ 154880 + 19360 + 480 := by rw [List.length_append]; omega
        have e7 : (O1 ++ (l.fRules.take (j + 1)).flatMap ruGl).map (D.int .i64) = (O2 ++ cs.flatten).map (D.int .i64) ++ r.fOutput.map (D.int .i64) := by
          rw [e2, ← List.append_assoc, hO2, e3, ← List.append_assoc, List.map_append]
        generalize O2 ++ cs.flatten = O3 at *
        (repeat' (first | (refine stg_ ?_) | fail | (refine br_ (fun hbr => ?_) (fun hbr => ?_))))
        refine NextW.go (j + 1) (Weak.cov ⟨rfl, ?_, rfl, rfl, rfl, rfl, rfl, rfl, rfl, trivial⟩ ⟨trivial, rfl, ?_, rfl, trivial⟩ rfl) (by omega) (by omega)
        · rw [e7]; simp only [List.length_append]; rfl
        · rw [e7, List.take_length]
    · obtain rfl : j = l.fRules.length := by omega
      rw [List.take_length] at *
      have e8 : ((f.fLookups.take (k + 1)).flatMap lkGl).map (D.int .i64) = (O1 ++ l.fRules.flatMap ruGl).map (D.int .i64) := by rw [e1]; rfl
      (repeat' (first | (refine stg_ ?_) | fail | (refine br_ (fun hbr => ?_) (fun hbr => ?_))))
      refine NextW.go (k + 1) (Weak.cov ⟨rfl, ?_, rfl, rfl, rfl, trivial⟩ ⟨trivial, rfl, ?_, trivial⟩ rfl) (by omega) (by omega)
      · rw [e8]; rfl
      · rw [e8]
  · obtain rfl : k = f.fLookups.length := by omega
    rw [List.take_length] at *
    have hU1 : (f.fLookups.flatMap lkGl).length ≤ 154880 := by omega
    have hUs : usG f = f.fLookups.flatMap lkGl ++ f.fKerns.flatMap knGl ++ f.fMarks.flatMap mkGl ++ f.fJoins.flatMap jnGl := rfl
    generalize f.fLookups.flatMap lkGl = U1 at *
    clear b1 b1' h1 hk
    (repeat (refine stg_ ?_))
    refine LoopW.go (α := Nat) (fun k => [(1, .pB 1 [] 0), (3, .own 2 0 ((U1 ++ (f.fKerns.take k).flatMap knGl).map (D.int .i64)).length), (56, .d (.lst (f.fKerns.map TKern.D))), (57, .d (.int .i64 (f.fKerns.map TKern.D).length)), (58, .d (.int .i64 k))]) (fun k => [.gone, .box (.d f.D), .arr 1 ((U1 ++ (f.fKerns.take k).flatMap knGl).map (D.int .i64)) true]) (fun k => k ≤ f.fKerns.length) (fun k => f.fKerns.length - k) 0 (Weak.cov ⟨rfl, by (show V.own 2 0 (U1.map (D.int .i64)).length = _; simp), rfl, rfl, rfl, trivial⟩ ⟨trivial, rfl, by simp, trivial⟩ rfl) (by omega) (fun k hk => ?_)
    have b4 := fmt_len (m := 80) (f := knGl) (xs := f.fKerns) (fun x hx => by
      obtain ⟨h1, h2⟩ := knB_l (F.kn x hx)
      have := fcB_len h1
      have := fcB_len h2
      rw [knGl, List.length_append]; omega) k
    have b4' := Nat.mul_le_mul_right 80 n2
    (conv => whnf)
    (refine br_ (fun h1 => ?_) (fun h1 => ?_) <;> (repeat (refine stg_ ?_)))
    · obtain ⟨x, hx⟩ := at_lt' (xs := f.fKerns) (k := k) (by omega)
      obtain ⟨p1, p2⟩ := knB_l (F.kn x (List.mem_of_getElem? hx))
      have p1 := fcB_len p1
      have p2 := fcB_len p2
      have hO : (U1 ++ (f.fKerns.take k).flatMap knGl).length ≤ 160000 := by rw [List.length_append]; omega
      have e1 : U1 ++ (f.fKerns.take (k + 1)).flatMap knGl = (U1 ++ (f.fKerns.take k).flatMap knGl) ++ knGl x := by rw [fmt_succ hx, List.append_assoc]
      generalize (U1 ++ (f.fKerns.take k).flatMap knGl) = O at *
      have e4 : [O, x.fLeft, x.fRight].flatten = O ++ knGl x := by simp [knGl]
      have e5 : lenS [O, x.fLeft, x.fRight] = ((O ++ knGl x).map (D.int .i64)).length := by simp [lenS, knGl]
      have c1 := catI_v [O, x.fLeft, x.fRight] (by simp only [lenS]; omega)
      rw [e4, e5] at c1
      (repeat (refine stg_ ?_))
      (refine cla_ (c1) ?_ (hb := ⟨_, _, rfl, ⟨_, rfl, rfl, rfl, _, rfl, ⟨_, _, rfl, ⟨by simp, by (show _ = D.lst (List.take _ (List.drop 0 _)); rw [List.drop_zero, List.take_of_length_le (by simp)])⟩, ⟨_, _, rfl, ⟨rfl, rfl⟩, ⟨_, _, rfl, ⟨rfl, rfl⟩, rfl⟩⟩⟩⟩, rfl⟩))
      (repeat (refine stg_ ?_))
      refine NextW.go (k + 1) (Weak.trans (Weak.swap 2 5 rfl) (Weak.cov ⟨rfl, ?_, rfl, rfl, rfl, trivial⟩ ⟨trivial, rfl, ?_, trivial⟩ rfl)) (by omega) (by omega)
      · rw [e1]; rfl
      · rw [e1]; rfl
    · obtain rfl : k = f.fKerns.length := by omega
      rw [List.take_length] at *
      have hU2 : (U1 ++ f.fKerns.flatMap knGl).length ≤ 160000 := by rw [List.length_append]; omega
      generalize U1 ++ f.fKerns.flatMap knGl = U2 at *
      clear b4 b4' h1 hk hU1
      (repeat (refine stg_ ?_))
      refine LoopW.go (α := Nat) (fun k => [(1, .pB 1 [] 0), (3, .own 2 0 ((U2 ++ (f.fMarks.take k).flatMap mkGl).map (D.int .i64)).length), (71, .d (.lst (f.fMarks.map TMarkRule.D))), (72, .d (.int .i64 (f.fMarks.map TMarkRule.D).length)), (73, .d (.int .i64 k))]) (fun k => [.gone, .box (.d f.D), .arr 1 ((U2 ++ (f.fMarks.take k).flatMap mkGl).map (D.int .i64)) true]) (fun k => k ≤ f.fMarks.length) (fun k => f.fMarks.length - k) 0 (Weak.cov ⟨rfl, by (show V.own 2 0 (U2.map (D.int .i64)).length = _; simp), rfl, rfl, rfl, trivial⟩ ⟨trivial, rfl, by simp, trivial⟩ rfl) (by omega) (fun k hk => ?_)
      have b4 := fmt_len (m := 80) (f := mkGl) (xs := f.fMarks) (fun x hx => by
        obtain ⟨h1, h2⟩ := mkB_l (F.mar x hx)
        have := fcB_len h1
        have := fcB_len h2
        rw [mkGl, List.length_append]; omega) k
      have b4' := Nat.mul_le_mul_right 80 n3
      (conv => whnf)
      (refine br_ (fun h1 => ?_) (fun h1 => ?_) <;> (repeat (refine stg_ ?_)))
      · obtain ⟨x, hx⟩ := at_lt' (xs := f.fMarks) (k := k) (by omega)
        obtain ⟨p1, p2⟩ := mkB_l (F.mar x (List.mem_of_getElem? hx))
        have p1 := fcB_len p1
        have p2 := fcB_len p2
        have hO : (U2 ++ (f.fMarks.take k).flatMap mkGl).length ≤ 170000 := by rw [List.length_append]; omega
        have e1 : U2 ++ (f.fMarks.take (k + 1)).flatMap mkGl = (U2 ++ (f.fMarks.take k).flatMap mkGl) ++ mkGl x := by rw [fmt_succ hx, List.append_assoc]
        generalize (U2 ++ (f.fMarks.take k).flatMap mkGl) = O at *
        have e4 : [O, x.fMarks, x.fBases].flatten = O ++ mkGl x := by simp [mkGl]
        have e5 : lenS [O, x.fMarks, x.fBases] = ((O ++ mkGl x).map (D.int .i64)).length := by simp [lenS, mkGl]
        have c1 := catI_v [O, x.fMarks, x.fBases] (by simp only [lenS]; omega)
        rw [e4, e5] at c1
        (repeat (refine stg_ ?_))
        (refine cla_ (c1) ?_ (hb := ⟨_, _, rfl, ⟨_, rfl, rfl, rfl, _, rfl, ⟨_, _, rfl, ⟨by simp, by (show _ = D.lst (List.take _ (List.drop 0 _)); rw [List.drop_zero, List.take_of_length_le (by simp)])⟩, ⟨_, _, rfl, ⟨rfl, rfl⟩, ⟨_, _, rfl, ⟨rfl, rfl⟩, rfl⟩⟩⟩⟩, rfl⟩))
        (repeat (refine stg_ ?_))
        refine NextW.go (k + 1) (Weak.trans (Weak.swap 2 5 rfl) (Weak.cov ⟨rfl, ?_, rfl, rfl, rfl, trivial⟩ ⟨trivial, rfl, ?_, trivial⟩ rfl)) (by omega) (by omega)
        · rw [e1]; rfl
        · rw [e1]; rfl
      · obtain rfl : k = f.fMarks.length := by omega
        rw [List.take_length] at *
        have hU3 : (U2 ++ f.fMarks.flatMap mkGl).length ≤ 170000 := by rw [List.length_append]; omega
        generalize U2 ++ f.fMarks.flatMap mkGl = U3 at *
        clear b4 b4' h1 hk hU2
        (repeat (refine stg_ ?_))
        refine LoopW.go (α := Nat) (fun k => [(1, .pB 1 [] 0), (3, .own 2 0 ((U3 ++ (f.fJoins.take k).flatMap jnGl).map (D.int .i64)).length), (86, .d (.lst (f.fJoins.map TJoin.D))), (87, .d (.int .i64 (f.fJoins.map TJoin.D).length)), (88, .d (.int .i64 k))]) (fun k => [.gone, .box (.d f.D), .arr 1 ((U3 ++ (f.fJoins.take k).flatMap jnGl).map (D.int .i64)) true]) (fun k => k ≤ f.fJoins.length) (fun k => f.fJoins.length - k) 0 (Weak.cov ⟨rfl, by (show V.own 2 0 (U3.map (D.int .i64)).length = _; simp), rfl, rfl, rfl, trivial⟩ ⟨trivial, rfl, by simp, trivial⟩ rfl) (by omega) (fun k hk => ?_)
        have b4 := fmt_len (m := 4) (f := jnGl) (xs := f.fJoins) (fun x _ => jnGl_len x) k
        have b4' := Nat.mul_le_mul_right 4 n4
        (conv => whnf)
        (refine br_ (fun h1 => ?_) (fun h1 => ?_) <;> (repeat (refine stg_ ?_)))
        · obtain ⟨x, hx⟩ := at_lt' (xs := f.fJoins) (k := k) (by omega)
          have hO : (U3 ++ (f.fJoins.take k).flatMap jnGl).length ≤ 180000 := by rw [List.length_append]; omega
          have e1 : U3 ++ (f.fJoins.take (k + 1)).flatMap jnGl = (U3 ++ (f.fJoins.take k).flatMap jnGl) ++ [x.fGlyph] ++ [x.fInit, x.fMedi, x.fFina].filter (fun g => decide (0 ≤ g)) := by rw [fmt_succ hx, ← List.append_assoc, jnGl, List.append_assoc _ [x.fGlyph]]; rfl
          generalize (U3 ++ (f.fJoins.take k).flatMap jnGl) = O at *
          have hOm : ((O ++ [x.fGlyph]).map (D.int .i64)).length = O.length + 1 := by simp
          have hO1 : (O ++ [x.fGlyph]).length ≤ 180001 := by simp; omega
          (repeat (refine stg_ ?_))
          refine LoopW.go (α := Nat) (fun m => [(1, .pB 1 [] 0), (3, .own 2 0 ((O ++ [x.fGlyph] ++ ([x.fInit, x.fMedi, x.fFina].take m).filter (fun g => decide (0 ≤ g))).map (D.int .i64)).length), (86, .d (.lst (f.fJoins.map TJoin.D))), (87, .d (.int .i64 (f.fJoins.map TJoin.D).length)), (88, .d (.int .i64 k)), (103, .own 5 0 3), (104, .d (.int .i64 3)), (105, .d (.int .i64 m))]) (fun m => [.gone, .box (.d f.D), .arr 1 ((O ++ [x.fGlyph] ++ ([x.fInit, x.fMedi, x.fFina].take m).filter (fun g => decide (0 ≤ g))).map (D.int .i64)) true, .box (.d x.D), .gone, .arr 1 ([x.fInit, x.fMedi, x.fFina].map (D.int .i64)) true]) (fun m => m ≤ 3) (fun m => 3 - m) 0 (Weak.cov ⟨rfl, ?_, rfl, rfl, rfl, rfl, rfl, rfl, trivial⟩ ⟨trivial, rfl, ?_, rfl, trivial, rfl, trivial⟩ rfl) (by omega) (fun m hm => ?_)
          · show V.own 2 0 ((O.map (D.int .i64)).length + 1) = V.own 2 0 ((O ++ [x.fGlyph] ++ []).map (D.int .i64)).length
            simp
          · show Blk.arr 1 ((O.map (D.int .i64)).take (O.map (D.int .i64)).length ++ [D.int .i64 x.fGlyph]) true = Blk.arr 1 ((O ++ [x.fGlyph] ++ []).map (D.int .i64)) true
            rw [List.take_length]; simp
          have b5 := List.length_filter_le (fun g => decide ((0 : Int) ≤ g)) ([x.fInit, x.fMedi, x.fFina].take m)
          have hT : [x.fInit, x.fMedi, x.fFina].length = 3 := rfl
          have e1' : ([x.fInit, x.fMedi, x.fFina].take 3) = [x.fInit, x.fMedi, x.fFina] := rfl
          rw [← e1'] at e1
          generalize [x.fInit, x.fMedi, x.fFina] = T at *
          have b5' : (T.take m).length ≤ 3 := by simp; omega
          have hT' : (T.map (D.int .i64)).length = T.length := List.length_map _
          have hO2 : (O ++ [x.fGlyph] ++ (T.take m).filter (fun g => decide (0 ≤ g))).length ≤ 180010 := by rw [List.length_append]; omega
          (conv => whnf)
          (refine br_ (fun h3 => ?_) (fun h3 => ?_) <;> (repeat (refine stg_ ?_)))
          · obtain ⟨y, hy⟩ := at_lt' (xs := T) (k := m) (by omega)
            have hy' : (T.map (D.int .i64))[m]? = some (.int .i64 y) := by rw [List.getElem?_map, hy]; rfl
            have e2 := flr_succ (p := fun g => decide ((0 : Int) ≤ g)) hy
            have e3 : O ++ [x.fGlyph] ++ (T.take (m + 1)).filter (fun g => decide (0 ≤ g)) = O ++ [x.fGlyph] ++ (T.take m).filter (fun g => decide (0 ≤ g)) ++ (if decide (0 ≤ y) = true then [y] else []) := by rw [e2, List.append_assoc, List.append_assoc, List.append_assoc]
            generalize O ++ [x.fGlyph] ++ (T.take m).filter (fun g => decide (0 ≤ g)) = O3 at *
            (repeat' (first | (refine stg_ ?_) | fail | (refine br_ (fun hbr => ?_) (fun hbr => ?_))))
            · rw [if_pos (by simp; omega)] at e3
              refine NextW.go (m + 1) (Weak.cov ⟨rfl, ?_, rfl, rfl, rfl, rfl, rfl, rfl, trivial⟩ ⟨trivial, rfl, ?_, rfl, trivial, rfl, trivial⟩ rfl) (by omega) (by omega)
              · rw [e3]
                show V.own 2 0 ((O3.map (D.int .i64)).length + 1) = _
                simp
              · rw [e3]
                show Blk.arr 1 ((O3.map (D.int .i64)).take (O3.map (D.int .i64)).length ++ [D.int .i64 y]) true = _
                rw [List.take_length]; simp
            · rw [if_neg (by simp; omega), List.append_nil] at e3
              refine NextW.go (m + 1) (Weak.cov ⟨rfl, ?_, rfl, rfl, rfl, rfl, rfl, rfl, trivial⟩ ⟨trivial, rfl, ?_, rfl, trivial, rfl, trivial⟩ rfl) (by omega) (by omega)
              · rw [e3]; rfl
              · rw [e3]
          · obtain rfl : m = 3 := by omega
            rw [← e1] at *
            (repeat (refine stg_ ?_))
            refine NextW.go (k + 1) (Weak.cov ⟨rfl, rfl, rfl, rfl, rfl, trivial⟩ ⟨trivial, rfl, rfl, trivial⟩ rfl) (by omega) (by omega)
        · obtain rfl : k = f.fJoins.length := by omega
          rw [List.take_length] at *
          have hU4 : (U3 ++ f.fJoins.flatMap jnGl).length ≤ 180000 := by rw [List.length_append]; omega
          rw [← hUs] at *
          have c1 := classOf_v (usG f) (by omega)
          (repeat' (first | (refine stg_ ?_) | (refine cla_ (c1) ?_) | (refine br_ (fun hbr => ?_) (fun hbr => ?_))))
          (refine ⟨⟨[some 3], ⟨by decide, rfl, trivial, trivial⟩, by decide, rfl, ?_⟩⟩; (conv => whnf); exact ⟨by decide, rfl⟩)
def vfB (f : TFeatures) (g : Int) : Bool := ftB f && (usG f).all fun x => decide (x < g)
theorem usG_len {f : TFeatures} (h : ftB f = true) : (usG f).length ≤ 200000 := by
  have F := ftB_F h
  have h1 := flatMap_len (m := 19360) (f := lkGl) f.fLookups (fun x hx => lkGl_len (F.lk x hx))
  have h2 := flatMap_len (m := 80) (f := knGl) f.fKerns (fun x hx => by
    obtain ⟨h1, h2⟩ := knB_l (F.kn x hx)
    have := fcB_len h1
    have := fcB_len h2
    rw [knGl, List.length_append]; omega)
  have h3 := flatMap_len (m := 80) (f := mkGl) f.fMarks (fun x hx => by
    obtain ⟨h1, h2⟩ := mkB_l (F.mar x hx)
    have := fcB_len h1
    have := fcB_len h2
    rw [mkGl, List.length_append]; omega)
  have h4 := flatMap_len (m := 4) (f := jnGl) f.fJoins (fun x _ => jnGl_len x)
  have n1 := F.lkn
  have n2 := F.knn
  have n3 := F.marn
  have n4 := F.jnn
  rw [usG, List.length_append, List.length_append, List.length_append]
  omega
set_option maxHeartbeats 8000000 in
theorem ValidFeatures_v (f : TFeatures) (g : Int) : PC Tryz.prog 52 [.d f.D, .d (.int .i64 g)] (.d (.bool (vfB f g))) [] := by
  refine pc_intro ttOk (by kernel_rfl) Tryz.func52 rfl (by kernel_rfl) (by kernel_rfl) (by kernel_rfl) (fun hw => ?_)
  have hLk : (f.fLookups.map TLookup.D).length = f.fLookups.length := List.length_map _
  have hK : (f.fKerns.map TKern.D).length = f.fKerns.length := List.length_map _
  have hM : (f.fMarks.map TMarkRule.D).length = f.fMarks.length := List.length_map _
  have hJ : (f.fJoins.map TJoin.D).length = f.fJoins.length := List.length_map _
  have hJm : (f.fJoins.map TJoin.D).length ≤ 9223372036854775807 := hw.1.2.2.2.1.1
  have hF : ftB f = (lksB f.fLookups && (decide (f.fKerns.length ≤ 40) && (decide (f.fMarks.length ≤ 12) && (f.fKerns.all knB && (f.fMarks.all mkB && jnG none f.fJoins))))) := rfl
  have hG := fun h => glyphsUsed_v f h
  have hV : vfB f g = (ftB f && (usG f).all fun x => decide (x < g)) := rfl
  generalize vfB f g = R at hV ⊢
  generalize hFB : ftB f = FB at *
  (conv => whnf)
  (repeat' (first | (refine stg_ ?_) | fail | (refine br_ (fun hbr => ?_) (fun hbr => ?_))))
  all_goals first | ((refine RetOK.d rfl rfl ?_; conv => whnf); rw [hV, hF, lksB, show decide (f.fLookups.length ≤ 8) = false by (rw [decide_eq_false_iff_not]; omega)]; simp; done) | ((refine RetOK.d rfl rfl ?_; conv => whnf); rw [hV, hF, show decide (f.fKerns.length ≤ 40) = false by (rw [decide_eq_false_iff_not]; omega)]; simp; done) | ((refine RetOK.d rfl rfl ?_; conv => whnf); rw [hV, hF, show decide (f.fMarks.length ≤ 12) = false by (rw [decide_eq_false_iff_not]; omega)]; simp; done) | skip
  have hl8 : f.fLookups.length ≤ 8 := by omega
  have hk40 : f.fKerns.length ≤ 40 := by omega
  have hm12 : f.fMarks.length ≤ 12 := by omega
  rw [lksB, decide_eq_true hl8, decide_eq_true hk40, decide_eq_true hm12, Bool.true_and, Bool.true_and, Bool.true_and] at hF
  refine LoopW.go (α := Nat) (fun k => [(1, .d (.int .i64 g)), (2, .pB 1 [] 0), (31, .d (.lst (f.fLookups.map TLookup.D))), (32, .d (.int .i64 (f.fLookups.map TLookup.D).length)), (33, .d (.int .i64 k))]) (fun _ => [.gone, .box (.d f.D)]) (fun k => k ≤ f.fLookups.length ∧ lkG [] f.fLookups = lkG (f.fLookups.take k) (f.fLookups.drop k)) (fun k => f.fLookups.length - k) 0 covT_ ⟨by omega, rfl⟩ (fun k hk => ?_)
  obtain ⟨hk1, hk2⟩ := hk
  (conv => whnf)
  (refine br_ (fun h1 => ?_) (fun h1 => ?_) <;> (repeat (refine stg_ ?_)))
  · obtain ⟨l, hl⟩ := at_lt' (xs := f.fLookups) (k := k) (by omega)
    rw [lkG_at hl] at hk2
    have c1 := validLookup_v l
    have c2 := lookupNamed_v (f.fLookups.take k) l.fName
    have hsl : (f.fLookups.take k).map TLookup.D = ((f.fLookups.map TLookup.D).drop 0).take ((k : Int).toNat - 0) := by simp [List.map_take]
    rw [hsl] at c2
    have hq := fdx_any (nmEq l.fName) (f.fLookups.take k) 0
    rw [← hq] at hk2
    generalize fdx (nmEq l.fName) (f.fLookups.take k) 0 = q at *
    (repeat' (first | (refine stg_ ?_) | (refine cla_ (c1) ?_) | (refine cla_ (c2) ?_) | (refine br_ (fun hbr => ?_) (fun hbr => ?_))))
    all_goals first | (exfalso; omega) | ((refine RetOK.d rfl rfl ?_; conv => whnf); rw [hV, hF, hk2]; simp_all; done) | ((refine RetOK.d rfl rfl ?_; conv => whnf); rw [hV, hF, hk2, show decide (0 ≤ q) = true by (rw [decide_eq_true_eq]; omega)]; simp; done) | skip
    all_goals exact NextW.go (k + 1) covT_ ⟨by omega, by rw [hk2, show decide (0 ≤ q) = false by (rw [decide_eq_false_iff_not]; omega)]; simp_all⟩ (by omega)
  rw [hk2, lkG_end (by omega), Bool.true_and] at hF
  clear hk2 h1 hk1
  (repeat (refine stg_ ?_))
  refine LoopW.go (α := Nat) (fun k => [(1, .d (.int .i64 g)), (2, .pB 1 [] 0), (53, .d (.lst (f.fKerns.map TKern.D))), (54, .d (.int .i64 (f.fKerns.map TKern.D).length)), (55, .d (.int .i64 k))]) (fun _ => [.gone, .box (.d f.D)]) (fun k => k ≤ f.fKerns.length ∧ f.fKerns.all knB = (f.fKerns.drop k).all knB) (fun k => f.fKerns.length - k) 0 covT_ ⟨by omega, rfl⟩ (fun k hk => ?_)
  obtain ⟨hk1, hk2⟩ := hk
  (conv => whnf)
  (refine br_ (fun h1 => ?_) (fun h1 => ?_) <;> (repeat (refine stg_ ?_)))
  · obtain ⟨x, hx⟩ := at_lt' (xs := f.fKerns) (k := k) (by omega)
    rw [drop_at hx, List.all_cons] at hk2
    (repeat' (first | (refine stg_ ?_) | (refine cla_ (fullClass_v x.fLeft) ?_) | (refine cla_ (fullClass_v x.fRight) ?_) | (refine br_ (fun hbr => ?_) (fun hbr => ?_))))
    all_goals first | ((refine RetOK.d rfl rfl ?_; conv => whnf); rw [hV, hF, hk2, knB, inB]; simp_all; done) | ((refine RetOK.d rfl rfl ?_; conv => whnf); rw [hV, hF, hk2, knB, show inB x.fValue (-262144) 262144 = false by (rw [inB, Bool.and_eq_false_iff, decide_eq_false_iff_not, decide_eq_false_iff_not]; omega)]; simp; done) | skip
    all_goals exact NextW.go (k + 1) covT_ ⟨by omega, by rw [hk2, knB, show inB x.fValue (-262144) 262144 = true by (rw [inB, Bool.and_eq_true, decide_eq_true_eq, decide_eq_true_eq]; omega)]; simp_all⟩ (by omega)
  rw [hk2, List.drop_eq_nil_of_le (by omega), List.all_nil, Bool.true_and] at hF
  clear hk2 h1 hk1
  (repeat (refine stg_ ?_))
  refine LoopW.go (α := Nat) (fun k => [(1, .d (.int .i64 g)), (2, .pB 1 [] 0), (81, .d (.lst (f.fMarks.map TMarkRule.D))), (82, .d (.int .i64 (f.fMarks.map TMarkRule.D).length)), (83, .d (.int .i64 k))]) (fun _ => [.gone, .box (.d f.D)]) (fun k => k ≤ f.fMarks.length ∧ f.fMarks.all mkB = (f.fMarks.drop k).all mkB) (fun k => f.fMarks.length - k) 0 covT_ ⟨by omega, rfl⟩ (fun k hk => ?_)
  obtain ⟨hk1, hk2⟩ := hk
  (conv => whnf)
  (refine br_ (fun h1 => ?_) (fun h1 => ?_) <;> (repeat (refine stg_ ?_)))
  · obtain ⟨x, hx⟩ := at_lt' (xs := f.fMarks) (k := k) (by omega)
    rw [drop_at hx, List.all_cons] at hk2
    (repeat' (first | (refine stg_ ?_) | (refine cla_ (fullClass_v x.fMarks) ?_) | (refine cla_ (fullClass_v x.fBases) ?_) | (refine cla_ (IsName_v x.fAnchor) ?_) | (refine br_ (fun hbr => ?_) (fun hbr => ?_))))
    all_goals first | ((refine RetOK.d rfl rfl ?_; conv => whnf); rw [hV, hF, hk2, mkB]; simp_all; done) | skip
    all_goals exact NextW.go (k + 1) covT_ ⟨by omega, by rw [hk2, mkB]; simp_all⟩ (by omega)
  rw [hk2, List.drop_eq_nil_of_le (by omega), List.all_nil, Bool.true_and] at hF
  clear hk2 h1 hk1
  (repeat (refine stg_ ?_))
  refine LoopW.go (α := Nat) (fun j => [(1, .d (.int .i64 g)), (2, .pB 1 [] 0), (105, .d (.lst (f.fJoins.map TJoin.D))), (106, .d (.int .i64 (f.fJoins.map TJoin.D).length)), (107, .d (.int .i64 j))]) (fun _ => [.gone, .box (.d f.D)]) (fun j => j ≤ f.fJoins.length ∧ FB = jnG (pv f.fJoins j) (f.fJoins.drop j)) (fun j => f.fJoins.length - j) 0 covT_ ⟨by omega, hF⟩ (fun j hj => ?_)
  clear hF
  obtain ⟨hj1, hj2⟩ := hj
  (conv => whnf)
  (refine br_ (fun h2 => ?_) (fun h2 => ?_) <;> (repeat (refine stg_ ?_)))
  · obtain ⟨x, hx⟩ := at_lt' (xs := f.fJoins) (k := j) (by omega)
    rw [jnG_at hx] at hj2
    rcases Nat.eq_zero_or_pos j with rfl | h0
    · rw [pv_zero, ltJ, Bool.true_and] at hj2
      (repeat' (first | (refine stg_ ?_) | (refine cla_ (validJoin_v x) ?_) | (refine br_ (fun hbr => ?_) (fun hbr => ?_))))
      all_goals first | (exfalso; omega) | ((refine RetOK.d rfl rfl ?_; conv => whnf); rw [hV, hj2]; simp_all; done) | skip
      all_goals exact NextW.go (0 + 1) covT_ ⟨by omega, by rw [hj2]; simp_all⟩ (by omega)
    · obtain ⟨p, hp⟩ := at_lt' (xs := f.fJoins) (k := j - 1) (by omega)
      have hp' : (f.fJoins.map TJoin.D)[((j : Int) - 1).toNat]? = some p.D := by
        have : ((j : Int) - 1).toNat = j - 1 := by omega
        rw [this, List.getElem?_map, hp]; rfl
      rw [pv_pos _ h0, hp, ltJ] at hj2
      (repeat' (first | (refine stg_ ?_) | (refine cla_ (validJoin_v x) ?_) | (refine IxW.at (by omega) hp' ?_; (conv => whnf)) | (refine br_ (fun hbr => ?_) (fun hbr => ?_))))
      all_goals first | (exfalso; omega) | ((refine RetOK.d rfl rfl ?_; conv => whnf); rw [hV, hj2]; simp_all; done) | ((refine RetOK.d rfl rfl ?_; conv => whnf); rw [hV, hj2, show decide (p.fGlyph < x.fGlyph) = false by (rw [decide_eq_false_iff_not]; omega)]; simp; done) | skip
      all_goals exact NextW.go (j + 1) covT_ ⟨by omega, by rw [hj2]; simp_all⟩ (by omega)
  · rw [jnG_end (by omega)] at hj2
    have c1 := hG hj2
    have hlast := fun k z => cls_last (xs := usG f) (k := k) (z := z)
    have hmem := fun x => cls_mem (xs := usG f) (x := x)
    have hlen := cls_len (usG f)
    have hul := usG_len (by rw [hFB, hj2] : ftB f = true)
    rw [hj2, Bool.true_and] at hV
    generalize usG f = us at *
    have hn : cls us = [] → us = [] := fun e => List.eq_nil_iff_forall_not_mem.2 fun x hx => by
      have := (hmem x).2 hx; rw [e] at this; simp at this
    generalize cls us = cs at *
    (repeat (refine stg_ ?_))
    (refine cla_ (c1) ?_)
    have hcl : ((cs ++ List.replicate (us.length - cs.length) 0).map (D.int .i64)).length = us.length := by simp; omega
    by_cases h0 : cs = []
    · have := hn h0
      subst h0
      subst this
      (repeat' (first | (refine stg_ ?_) | fail | (refine br_ (fun hbr => ?_) (fun hbr => ?_))))
      (refine RetOK.d rfl rfl ?_; conv => whnf)
      rw [hV]; rfl
    · have hpos : 0 < cs.length := List.length_pos_iff.2 h0
      obtain ⟨z, hz⟩ := at_lt' (xs := cs) (k := cs.length - 1) (by omega)
      have hz' : ((cs ++ List.replicate (us.length - cs.length) 0).map (D.int .i64))[((cs.length : Int) - 1).toNat + 0]? = some (.int .i64 z) := by
        have : ((cs.length : Int) - 1).toNat + 0 = cs.length - 1 := by omega
        rw [this, List.getElem?_map, List.getElem?_append_left (by omega), hz]; rfl
      have hmax := hlast (cs.length - 1) z (by omega) hz
      have hzu : z ∈ us := (hmem z).1 (List.mem_of_getElem? hz)
      have hA : (us.all fun x => decide (x < g)) = decide (z < g) := by
        rw [Bool.eq_iff_iff, List.all_eq_true]
        constructor
        · intro h; exact h z hzu
        · intro h x hx
          have := hmax x hx
          simp at h ⊢; omega
      rw [hA] at hV
      (repeat' (first | (refine stg_ ?_) | (refine EoW.at hz' ?_; (conv => whnf)) | (refine br_ (fun hbr => ?_) (fun hbr => ?_))))
      all_goals first | (exfalso; omega) | ((refine RetOK.d rfl rfl ?_; conv => whnf); rw [hV]; done) | ((refine RetOK.d rfl rfl ?_; conv => whnf); rw [hV]; simp_all; done) | skip
theorem apF_ok (l : TLookup) (hr : ∀ r ∈ l.fRules, 1 ≤ r.fInput.length) : ∀ (n : Nat) (xs : List TItem) (tr : List Int) (a : Nat) (p : List TItem × List Int), xs.length ≤ 60 → (∀ x ∈ xs, wkI x) → apF l n xs tr a = some p → p.1.length ≤ 60 ∧ ∀ x ∈ p.1, wkI x
  | 0, xs, tr, a, p, h, hw, e => by cases e; exact ⟨h, hw⟩
  | n + 1, xs, tr, a, p, h, hw, e => by
    rw [apF] at e
    split at e
    · cases e; exact ⟨h, hw⟩
    · split at e
      · exact apF_ok l hr n _ _ _ p h hw e
      · split at e
        · cases e
        · rename_i hq _ r hri
          split at e
          · cases e
          · obtain ⟨i, r', q1, q2, q3⟩ := ruI_some (l := l) (xs := xs) (a := a) (by omega)
            rw [q1, Int.toNat_natCast, q2] at hri
            cases hri
            exact apF_ok l hr n _ _ _ p (by omega) (rpl_wk hw (hr _ (List.mem_of_getElem? q2)) (apRu_le q3)) e
theorem apL_ok {l : TLookup} (hl : lkB l = true) {xs : List TItem} {p : List TItem × List Int} (hx : xs.length ≤ 60) (hw : ∀ x ∈ xs, wkI x) (e : apL l xs = some p) : p.1.length ≤ 60 ∧ ∀ x ∈ p.1, wkI x :=
  apF_ok l (fun r hr => (ruB_fcs ((lkB_ru hl).1 r hr)).2.2.2.2) _ _ _ _ p hx hw e
def alF : List TLookup → List TItem → Option (List TItem)
  | [], xs => some xs
  | l :: t, xs => match apL l xs with
    | none => none
    | some p => alF t p.1
theorem alF_len : ∀ (ls : List TLookup) (xs ys : List TItem), (∀ l ∈ ls, lkB l = true) → xs.length ≤ 60 → (∀ x ∈ xs, wkI x) → alF ls xs = some ys → ys.length ≤ 60
  | [], xs, ys, _, h, _, e => by cases e; exact h
  | l :: t, xs, ys, hl, h, hw, e => by
    rw [alF] at e
    cases ha : apL l xs with
    | none => rw [ha] at e; cases e
    | some p =>
      rw [ha] at e
      obtain ⟨h1, h2⟩ := apL_ok (hl l (by simp)) h hw ha
      exact alF_len t p.1 ys (fun m hm => hl m (by simp [hm])) h1 h2 e
def AlRes (o : Option (List TItem)) : V → List Blk → Prop := fun v bs =>
  match o with
  | none => v = .tup [.nils, .d (.int .i64 5)] ∧ bs = []
  | some ys => v = .tup [.own 1 0 ys.length, .d (.int .i64 0)] ∧ bs = [.arr 3 (ys.map TItem.D) true]
set_option maxHeartbeats 4000000 in
theorem applyLookups_v (f : TFeatures) (xs : List TItem) (hl : ∀ l ∈ f.fLookups, lkB l = true) (hx : xs.length ≤ 60) (hwk : ∀ x ∈ xs, wkI x) {v : V} {bs : List Blk} (hres : AlRes (alF f.fLookups xs) v bs) : PC Tryz.prog 89 [.d f.D, .d (.lst (xs.map TItem.D))] v bs := by
  refine pc_intro ttOk (by kernel_rfl) Tryz.func89 rfl (by kernel_rfl) (by kernel_rfl) (by kernel_rfl) (fun hw => ?_)
  have hL : (xs.map TItem.D).length = xs.length := List.length_map _
  have hF : (f.fLookups.map TLookup.D).length = f.fLookups.length := List.length_map _
  have hFm : (f.fLookups.map TLookup.D).length ≤ 9223372036854775807 := hw.1.1.1
  have c0 := cloneItem_v xs (by omega)
  (conv => whnf)
  (repeat' (first | (refine stg_ ?_) | (refine cla_ (c0) ?_) | (refine br_ (fun hbr => ?_) (fun hbr => ?_))))
  refine LoopW.go (α := Nat × List TItem) (fun p => [(6, .own 2 0 p.2.length), (15, .d (.lst (f.fLookups.map TLookup.D))), (16, .d (.int .i64 (f.fLookups.map TLookup.D).length)), (17, .d (.int .i64 (p.1 : Nat)))]) (fun p => [.gone, .gone, .arr 3 (p.2.map TItem.D) true]) (fun p => p.1 ≤ f.fLookups.length ∧ p.2.length ≤ 60 ∧ (∀ x ∈ p.2, wkI x) ∧ alF f.fLookups xs = alF (f.fLookups.drop p.1) p.2) (fun p => f.fLookups.length - p.1) (0, xs) covT_ ⟨Nat.zero_le _, hx, hwk, rfl⟩ ?_
  rintro ⟨k, ys⟩ ⟨i1, i2, i3, i4⟩
  dsimp only at i1 i2 i3 i4 ⊢
  have hY : (ys.map TItem.D).length = ys.length := List.length_map _
  clear c0 hL
  (conv => whnf)
  (refine br_ (fun h1 => ?_) (fun h1 => ?_) <;> (repeat (refine stg_ ?_)))
  · obtain ⟨l, hk⟩ := at_lt' (xs := f.fLookups) (k := k) (by omega)
    have hlB := hl l (List.mem_of_getElem? hk)
    rw [drop_at hk, alF] at i4
    have c1 := fun {v bs} => applyLookup_v l ys hlB i2 i3 (v := v) (bs := bs)
    cases ho : apL l ys with
    | none =>
      rw [ho] at i4
      simp only at i4
      rw [i4] at hres
      obtain ⟨rfl, rfl⟩ := hres
      have c2 := c1 (v := .tup [.nils, .nils, .d (.int .i64 5)]) (bs := []) (by rw [ho]; exact ⟨rfl, rfl⟩)
      (repeat' (first | (refine stg_ ?_) | (refine cla_ (c2) ?_) | (refine br_ (fun hbr => ?_) (fun hbr => ?_))))
      all_goals first | (exfalso; simp_all; done) | (refine ⟨⟨[], trivial, by decide, ⟨_, rfl, rfl, ⟨_, _, rfl, rfl, ⟨_, _, rfl, ⟨rfl, ?_⟩, rfl⟩⟩⟩⟩⟩; (conv => whnf))
      all_goals rfl
    | some p =>
      obtain ⟨zs, tr⟩ := p
      rw [ho] at i4
      simp only at i4
      obtain ⟨j1, j2⟩ := apL_ok hlB i2 i3 ho
      have c2 := c1 (v := .tup [.own 1 0 zs.length, .own 2 0 tr.length, .d (.int .i64 0)]) (bs := [.arr 3 (zs.map TItem.D) true, .arr 1 (tr.map (D.int .i64)) true]) (by rw [ho]; exact ⟨rfl, rfl⟩)
      (repeat' (first | (refine stg_ ?_) | (refine cla_ (c2) ?_) | (refine br_ (fun hbr => ?_) (fun hbr => ?_))))
      all_goals first | (exfalso; simp_all; done) | skip
      refine NextW.go (k + 1, zs) (Weak.trans (Weak.swap 2 4 rfl) (Weak.cov ⟨rfl, rfl, rfl, rfl, trivial⟩ ⟨trivial, trivial, rfl, trivial⟩ rfl)) ⟨by show k + 1 ≤ _; omega, j1, j2, i4⟩ (by show f.fLookups.length - (k + 1) < f.fLookups.length - k; omega)
  · rw [List.drop_eq_nil_of_le (by omega), alF] at i4
    rw [i4] at hres
    obtain ⟨rfl, rfl⟩ := hres
    (repeat (refine stg_ ?_))
    (refine ⟨⟨[some 2], ⟨by decide, ?_, trivial, trivial⟩, by decide, ⟨_, rfl, rfl, ⟨_, _, rfl, ⟨by decide, ?_⟩, ⟨_, _, rfl, ⟨rfl, ?_⟩, rfl⟩⟩⟩⟩⟩)
    all_goals rfl
set_option maxHeartbeats 4000000 in
theorem l26All_v (f : TFeatures) (xs : List TItem) (hl : ∀ l ∈ f.fLookups, lkB l = true) (hx : xs.length ≤ 60) (hwk : ∀ x ∈ xs, wkI x) {v : V} {bs : List Blk} (hres : AlRes (alF f.fLookups xs) v bs) : PC Tryz.prog 139 [.pX f.D, .d (.lst (xs.map TItem.D))] v bs := by
  refine pc_intro ttOk (by kernel_rfl) Tryz.func139 rfl (by kernel_rfl) (by kernel_rfl) (by kernel_rfl) (fun hw => ?_)
  have hL : (xs.map TItem.D).length = xs.length := List.length_map _
  have hF : (f.fLookups.map TLookup.D).length = f.fLookups.length := List.length_map _
  have hFm : (f.fLookups.map TLookup.D).length ≤ 9223372036854775807 := hw.1.1.1
  (conv => whnf)
  (repeat' (first | (refine stg_ ?_) | fail | (refine br_ (fun hbr => ?_) (fun hbr => ?_))))
  refine LoopW.go (α := Nat × List TItem) (fun p => [(0, .pX f.D), (6, .own 1 0 p.2.length), (7, .d (.int .i64 (p.1 : Nat)))]) (fun p => [.gone, .arr 3 (p.2.map TItem.D) true]) (fun p => p.1 ≤ f.fLookups.length ∧ p.2.length ≤ 60 ∧ (∀ x ∈ p.2, wkI x) ∧ alF f.fLookups xs = alF (f.fLookups.drop p.1) p.2) (fun p => f.fLookups.length - p.1) (0, xs) (Weak.cov ⟨rfl, by (show V.own 1 0 (0 + (xs.map TItem.D).length) = V.own 1 0 xs.length; rw [Nat.zero_add, hL]), rfl, trivial⟩ ⟨trivial, rfl, trivial⟩ rfl) ⟨Nat.zero_le _, hx, hwk, rfl⟩ ?_
  rintro ⟨k, ys⟩ ⟨i1, i2, i3, i4⟩
  dsimp only at i1 i2 i3 i4 ⊢
  have hY : (ys.map TItem.D).length = ys.length := List.length_map _
  clear hL
  (conv => whnf)
  (repeat (refine stg_ ?_))
  (refine br_ (fun h1 => ?_) (fun h1 => ?_) <;> (repeat (refine stg_ ?_)))
  · obtain ⟨l, hk⟩ := at_lt' (xs := f.fLookups) (k := k) (by omega)
    have hlB := hl l (List.mem_of_getElem? hk)
    rw [drop_at hk, alF] at i4
    have c1 := fun {v bs} => l26Apply_v l ys hlB i2 i3 (v := v) (bs := bs)
    cases ho : apL l ys with
    | none =>
      rw [ho] at i4
      simp only at i4
      rw [i4] at hres
      obtain ⟨rfl, rfl⟩ := hres
      have c2 := c1 (v := .tup [.nils, .nils, .d (.int .i64 5)]) (bs := []) (by rw [ho]; exact ⟨rfl, rfl⟩)
      (repeat' (first | (refine stg_ ?_) | (refine cla_ (c2) ?_) | (refine br_ (fun hbr => ?_) (fun hbr => ?_))))
      all_goals first | (exfalso; simp_all; done) | (refine ⟨⟨[], trivial, by decide, ⟨_, rfl, rfl, ⟨_, _, rfl, rfl, ⟨_, _, rfl, ⟨rfl, ?_⟩, rfl⟩⟩⟩⟩⟩; (conv => whnf))
      all_goals rfl
    | some p =>
      obtain ⟨zs, tr⟩ := p
      rw [ho] at i4
      simp only at i4
      obtain ⟨j1, j2⟩ := apL_ok hlB i2 i3 ho
      have c2 := c1 (v := .tup [.own 1 0 zs.length, .own 2 0 tr.length, .d (.int .i64 0)]) (bs := [.arr 3 (zs.map TItem.D) true, .arr 1 (tr.map (D.int .i64)) true]) (by rw [ho]; exact ⟨rfl, rfl⟩)
      (repeat' (first | (refine stg_ ?_) | (refine cla_ (c2) ?_) | (refine br_ (fun hbr => ?_) (fun hbr => ?_))))
      all_goals first | (exfalso; simp_all; done) | skip
      refine NextW.go (k + 1, zs) (Weak.trans (Weak.swap 1 2 rfl) (Weak.cov ⟨rfl, rfl, rfl, trivial⟩ ⟨trivial, rfl, trivial⟩ rfl)) ⟨by show k + 1 ≤ _; omega, j1, j2, i4⟩ (by show f.fLookups.length - (k + 1) < f.fLookups.length - k; omega)
  · rw [List.drop_eq_nil_of_le (by omega), alF] at i4
    rw [i4] at hres
    obtain ⟨rfl, rfl⟩ := hres
    (repeat (refine stg_ ?_))
    (refine ⟨⟨[some 1], ⟨by decide, ?_, trivial, trivial⟩, by decide, ⟨_, rfl, rfl, ⟨_, _, rfl, ⟨by decide, ?_⟩, ⟨_, _, rfl, ⟨rfl, ?_⟩, rfl⟩⟩⟩⟩⟩)
    all_goals rfl
def bfr (k : Int) : Bool := k == 1 || k == 2
def lastF : Int → List Int → Int
  | p, [] => p
  | p, k :: t => lastF (if k = 3 then p else k) t
def nxtK : List Int → Int
  | [] => 0
  | k :: t => if k = 3 then nxtK t else k
def formN (p k n : Int) : Int := if (bfr k && p == 1) = true then (if (k == 1 && bfr n) = true then 2 else 3) else if (k == 1 && bfr n) = true then 1 else 0
def formsG : Int → List Int → List Int
  | _, [] => []
  | p, k :: t => formN p k (nxtK t) :: formsG (if k = 3 then p else k) t
def forms (ks : List Int) : List Int := formsG 0 ks
theorem formsG_len : ∀ (ks : List Int) (p : Int), (formsG p ks).length = ks.length
  | [], _ => rfl
  | k :: t, p => by simp [formsG, formsG_len t]
theorem formsG_get : ∀ (ks : List Int) (p : Int) (i : Nat) (k : Int), ks[i]? = some k → (formsG p ks)[i]? = some (formN (lastF p (ks.take i)) k (nxtK (ks.drop (i + 1))))
  | [], p, i, k, h => by simp at h
  | c :: t, p, 0, k, h => by
    obtain rfl : c = k := by simpa using h
    rfl
  | c :: t, p, i + 1, k, h => by
    have := formsG_get t (if c = 3 then p else c) i k (by simpa using h)
    simpa [formsG, lastF] using this
theorem lastF_snoc : ∀ (ks : List Int) (p k : Int), lastF p (ks ++ [k]) = if k = 3 then lastF p ks else k
  | [], p, k => rfl
  | c :: t, p, k => by rw [List.cons_append, lastF, lastF, lastF_snoc t]
def lastI : List Int → Option Nat
  | [] => none
  | c :: t => match lastI t with
    | some j => some (j + 1)
    | none => if c = 3 then none else some 0
theorem lastI_snoc : ∀ (ks : List Int) (k : Int), lastI (ks ++ [k]) = if k = 3 then lastI ks else some ks.length
  | [], k => by simp [lastI]
  | c :: t, k => by
    rw [List.cons_append, lastI, lastI_snoc t]
    by_cases h : k = 3
    · rw [if_pos h, if_pos h]; rfl
    · rw [if_neg h, if_neg h]; rfl
theorem lastI_none : ∀ {ks : List Int}, lastI ks = none → (∀ p, lastF p ks = p) ∧ ∀ k, nxtK (ks ++ [k]) = (if k = 3 then 0 else k) ∧ nxtK ks = 0
  | [], _ => ⟨fun _ => rfl, fun k => ⟨by simp [nxtK], rfl⟩⟩
  | c :: t, h => by
    rw [lastI] at h
    cases ht : lastI t with
    | some j => rw [ht] at h; cases h
    | none =>
      rw [ht] at h
      simp only at h
      by_cases hc : c = 3
      · obtain ⟨h1, h2⟩ := lastI_none ht
        refine ⟨fun p => by rw [lastF, if_pos hc]; exact h1 p, fun k => ?_⟩
        rw [List.cons_append, nxtK, if_pos hc, nxtK, if_pos hc]
        exact h2 k
      · rw [if_neg hc] at h; cases h
theorem lastI_some : ∀ {ks : List Int} {j : Nat}, lastI ks = some j → ∃ k, ks[j]? = some k ∧ k ≠ 3 ∧ (∀ p, lastF p ks = k) ∧ ∀ c, nxtK (ks ++ [c]) = nxtK ks
  | [], j, h => by cases h
  | c :: t, j, h => by
    rw [lastI] at h
    cases ht : lastI t with
    | some i =>
      rw [ht] at h
      obtain rfl : i + 1 = j := by simpa using h
      obtain ⟨k, h1, h2, h3, h4⟩ := lastI_some ht
      refine ⟨k, by simpa using h1, h2, fun p => by rw [lastF]; exact h3 _, fun d => ?_⟩
      rw [List.cons_append, nxtK, nxtK, h4]
    | none =>
      rw [ht] at h
      simp only at h
      by_cases hc : c = 3
      · rw [if_pos hc] at h; cases h
      · rw [if_neg hc] at h
        obtain rfl : 0 = j := by simpa using h
        obtain ⟨h1, h2⟩ := lastI_none ht
        exact ⟨c, rfl, hc, fun p => by rw [lastF, if_neg hc]; exact h1 c, fun d => by rw [List.cons_append, nxtK, nxtK, if_neg hc, if_neg hc]⟩
theorem formN_3 (p n : Int) : formN p 3 n = 0 := by simp [formN, bfr]
theorem forms_snoc3 : ∀ (ks : List Int) (p : Int), formsG p (ks ++ [3]) = formsG p ks ++ [0]
  | [], p => by simp [formsG, formN_3]
  | c :: t, p => by
    rw [List.cons_append, formsG, forms_snoc3 t, formsG, List.cons_append]
    congr 2
    cases ht : lastI t with
    | none => obtain ⟨-, h2⟩ := lastI_none ht; rw [(h2 3).1, (h2 3).2, if_pos rfl]
    | some j => obtain ⟨k, -, -, -, h4⟩ := lastI_some ht; rw [h4]
theorem formN_no {p c k : Int} (h : (c == 1 && bfr k) = false) : formN p c k = formN p c 0 := by
  rw [formN, formN, h, show (c == 1 && bfr 0) = false by simp [bfr]]
theorem formN_yes {p k : Int} (h : bfr k = true) : formN p 1 k = if formN p 1 0 = 0 then 1 else 2 := by
  have h0 : bfr 0 = false := rfl
  have h1 : bfr 1 = true := rfl
  by_cases hp : p = 1
  · subst hp; simp [formN, h, h0, h1]
  · simp [formN, h, h0, h1, hp]
theorem forms_snoc {k : Int} (hk : k ≠ 3) : ∀ (ks : List Int) (p : Int), formsG p (ks ++ [k]) = (match lastI ks with
    | none => formsG p ks
    | some j => if (lastF p ks == 1 && bfr k) = true then (formsG p ks).set j (if (formsG p ks)[j]? = some 0 then 1 else 2) else formsG p ks) ++ [formN (lastF p ks) k 0]
  | [], p => rfl
  | c :: t, p => by
    have ih := forms_snoc hk t (if c = 3 then p else c)
    rw [List.cons_append, formsG, ih, lastF, lastI, formsG]
    cases ht : lastI t with
    | some j =>
      obtain ⟨q, g1, g2, g3, g4⟩ := lastI_some ht
      rw [g4]
      generalize formN p c (nxtK t) = a
      generalize formsG (if c = 3 then p else c) t = G
      generalize formN (lastF (if c = 3 then p else c) t) k 0 = x
      show a :: ((if (lastF (if c = 3 then p else c) t == 1 && bfr k) = true then G.set j (if G[j]? = some 0 then 1 else 2) else G) ++ [x]) = (if (lastF (if c = 3 then p else c) t == 1 && bfr k) = true then (a :: G).set (j + 1) (if (a :: G)[j + 1]? = some 0 then 1 else 2) else (a :: G)) ++ [x]
      by_cases hC : (lastF (if c = 3 then p else c) t == 1 && bfr k) = true
      · rw [if_pos hC, if_pos hC, List.getElem?_cons_succ, List.set_cons_succ]; rfl
      · rw [if_neg hC, if_neg hC]; rfl
    | none =>
      obtain ⟨g1, g2⟩ := lastI_none ht
      rw [(g2 k).1, (g2 k).2, if_neg hk, g1]
      by_cases hc : c = 3
      · subst hc
        rw [formN_3, formN_3, if_pos rfl]; rfl
      · rw [if_neg hc, if_neg hc]
        generalize formsG c t = G
        generalize formN c k 0 = x
        show formN p c k :: (G ++ [x]) = (if (c == 1 && bfr k) = true then (formN p c 0 :: G).set 0 (if (formN p c 0 :: G)[0]? = some 0 then 1 else 2) else (formN p c 0 :: G)) ++ [x]
        by_cases hC : (c == 1 && bfr k) = true
        · rw [if_pos hC]
          simp only [Bool.and_eq_true, beq_iff_eq] at hC
          obtain ⟨rfl, hC⟩ := hC
          rw [formN_yes hC]
          simp
        · rw [if_neg hC, formN_no (by simpa using hC)]; rfl
def jnP (g : Int) (j : TJoin) : Bool := j.fGlyph == g
def jnO (f : TFeatures) (g : Int) : Option TJoin := f.fJoins.find? (jnP g)
def jz : TJoin := ⟨0, 0, 0, 0, 0⟩
def jnD (f : TFeatures) (g : Int) : TJoin := (jnO f g).getD jz
set_option maxHeartbeats 1000000 in
theorem ixJoinp_v (xs : List TJoin) (f : Nat) (y0 : D) (p : TJoin → Bool) (hf : ∀ x : TJoin, PC Tryz.prog f [.d x.D, .pX y0] (.d (.bool (p x))) []) :
    PC Tryz.prog 230 [.d (.lst (xs.map TJoin.D)), .fn (.func f) [.pX y0]] (.d (.int .i64 (fdx p xs 0))) [] := by
  refine pc_intro ttOk (by kernel_rfl) Tryz.func230 rfl (by kernel_rfl) (by kernel_rfl) (by kernel_rfl) (fun hw => ?_)
  have hL : (xs.map TJoin.D).length = xs.length := List.length_map _
  have hm : (xs.map TJoin.D).length ≤ 9223372036854775807 := hw.1.1
  (conv => whnf)
  refine LoopW.go (α := Nat) (fun k => [(0, .d (.lst (xs.map TJoin.D))), (1, .fn (.func f) [.pX y0]), (7, .d (.int .i64 (xs.map TJoin.D).length)), (8, .d (.int .i64 k))]) (fun k => [.gone]) (fun k => k ≤ xs.length ∧ fdx p xs 0 = fdx p (xs.drop k) k) (fun k => xs.length - k) 0 covT_ ?_ (fun k hk => ?_)
  · exact ⟨by omega, rfl⟩
  obtain ⟨hk1, hk2⟩ := hk
  (conv => whnf)
  (refine br_ (fun h2 => ?_) (fun h2 => ?_) <;> (repeat (refine stg_ ?_)))
  · obtain ⟨x, hx⟩ := at_lt' (xs := xs) (k := k) (by omega)
    rw [fdx_at hx] at hk2
    (repeat (refine stg_ ?_))
    (refine cla_ (hf x) ?_)
    (refine br_ (fun h3 => ?_) (fun h3 => ?_) <;> (repeat (refine stg_ ?_)))
    · (refine RetOK.d rfl rfl ?_; conv => whnf)
      rw [hk2, if_pos h3]
    · (repeat (refine stg_ ?_))
      exact NextW.go (k + 1) covT_ ⟨by omega, by rw [hk2, h3]; rfl⟩ (by omega)
  · (refine RetOK.d rfl rfl ?_; conv => whnf)
    rw [hk2, fdx_end (by omega)]
theorem joinOf1_v (x : TJoin) (g : Int) : PC Tryz.prog 231 [.d x.D, .pX (.int .i64 g)] (.d (.bool (jnP g x))) [] := by
  refine pc_intro ttOk (by kernel_rfl) Tryz.func231 rfl (by kernel_rfl) (by kernel_rfl) (by kernel_rfl) (fun hw => ?_)
  (conv => whnf)
  (refine RetOK.d rfl rfl ?_; conv => whnf)
  rfl
theorem joinOf_v (f : TFeatures) (g : Int) : PC Tryz.prog 191 [.d f.D, .d (.int .i64 g)] (.tup [.d (jnD f g).D, .d (.bool (jnO f g).isSome)]) [] := by
  refine pc_intro ttOk (by kernel_rfl) Tryz.func191 rfl (by kernel_rfl) (by kernel_rfl) (by kernel_rfl) (fun hw => ?_)
  have hJ : (f.fJoins.map TJoin.D).length = f.fJoins.length := List.length_map _
  have c1 := ixJoinp_v f.fJoins _ (.int .i64 g) (jnP g) (fun x => joinOf1_v x g)
  rcases fdx_find (jnP g) f.fJoins 0 with ⟨h1, h2⟩ | ⟨i, x, h1, h2, h3⟩
  · rw [jnD, jnO, h2]
    rw [h1] at c1
    (conv => whnf)
    (repeat' (first | (refine stg_ ?_) | (refine cla_ (c1) ?_) | (refine br_ (fun hbr => ?_) (fun hbr => ?_))))
    (refine RetOK.t rfl ?_; (repeat' ((conv => whnf); (first | done | (refine ⟨_, _, rfl, ⟨rfl, ?_⟩, ?_⟩) | fail))); (all_goals (conv => whnf)))
    (all_goals first | rfl | exact ⟨_, rfl, _, _, rfl, rfl, _, _, rfl, rfl, _, _, rfl, rfl, _, _, rfl, rfl, _, _, rfl, rfl, rfl⟩)
  · rw [jnD, jnO, h3]
    rw [h1, Nat.zero_add] at c1
    (conv => whnf)
    (repeat' (first | (refine stg_ ?_) | (refine cla_ (c1) ?_) | (refine br_ (fun hbr => ?_) (fun hbr => ?_))))
    all_goals first | (exfalso; omega) | ((refine RetOK.t rfl ?_; (repeat' ((conv => whnf); (first | done | (refine ⟨_, _, rfl, ⟨rfl, ?_⟩, ?_⟩) | fail))); (all_goals (conv => whnf))); (all_goals first | rfl | exact ⟨_, rfl, _, _, rfl, rfl, _, _, rfl, rfl, _, _, rfl, rfl, _, _, rfl, rfl, _, _, rfl, rfl, rfl⟩))
theorem l28Join_v (f : TFeatures) (g : Int) : PC Tryz.prog 226 [.pX f.D, .d (.int .i64 g)] (.d (.int .i64 (fdx (jnP g) f.fJoins 0))) [] := by
  refine pc_intro ttOk (by kernel_rfl) Tryz.func226 rfl (by kernel_rfl) (by kernel_rfl) (by kernel_rfl) (fun hw => ?_)
  have hJ : (f.fJoins.map TJoin.D).length = f.fJoins.length := List.length_map _
  have hJm : (f.fJoins.map TJoin.D).length ≤ 9223372036854775807 := hw.1.2.2.2.1.1
  (conv => whnf)
  refine LoopW.go (α := Nat) (fun k => [(0, .pX f.D), (1, .d (.int .i64 g)), (5, .d (.int .i64 k))]) (fun k => [.gone]) (fun k => k ≤ f.fJoins.length ∧ fdx (jnP g) f.fJoins 0 = fdx (jnP g) (f.fJoins.drop k) k) (fun k => f.fJoins.length - k) 0 covT_ ?_ (fun k hk => ?_)
  · exact ⟨by omega, rfl⟩
  obtain ⟨hk1, hk2⟩ := hk
  (conv => whnf)
  (repeat (refine stg_ ?_))
  (refine br_ (fun h2 => ?_) (fun h2 => ?_) <;> (repeat (refine stg_ ?_)))
  · obtain ⟨x, hx⟩ := at_lt' (xs := f.fJoins) (k := k) (by omega)
    rw [fdx_at hx] at hk2
    (repeat (refine stg_ ?_))
    (refine br_ (fun h3 => ?_) (fun h3 => ?_) <;> (repeat (refine stg_ ?_)))
    · (repeat (refine stg_ ?_))
      (refine RetOK.d rfl rfl ?_; conv => whnf)
      rw [hk2, if_pos (by simp [jnP, h3])]
    · (repeat (refine stg_ ?_))
      exact NextW.go (k + 1) covT_ ⟨by omega, by rw [hk2, if_neg (by simp [jnP, h3])]⟩ (by omega)
  · (repeat (refine stg_ ?_))
    (refine RetOK.d rfl rfl ?_; conv => whnf)
    rw [hk2, fdx_end (by omega)]
theorem jnK_eq (f : TFeatures) (g : Int) : (jnD f g).fKind = match jnO f g with | some j => j.fKind | none => 0 := by
  rw [jnD]; cases jnO f g <;> rfl
theorem l28Kind_v (f : TFeatures) (g : Int) : PC Tryz.prog 223 [.pX f.D, .d (.int .i64 g)] (.d (.int .i64 (jnD f g).fKind)) [] := by
  refine pc_intro ttOk (by kernel_rfl) Tryz.func223 rfl (by kernel_rfl) (by kernel_rfl) (by kernel_rfl) (fun hw => ?_)
  have hJ : (f.fJoins.map TJoin.D).length = f.fJoins.length := List.length_map _
  have c2 := l28Join_v f g
  rw [jnK_eq]
  rcases fdx_find (jnP g) f.fJoins 0 with ⟨h1, h2⟩ | ⟨i, x, h1, h2, h3⟩
  · rw [jnO, h2]
    rw [h1] at c2
    (conv => whnf)
    (repeat' (first | (refine stg_ ?_) | (refine cla_ (c2) ?_) | (refine br_ (fun hbr => ?_) (fun hbr => ?_))))
    (refine RetOK.d rfl rfl ?_; conv => whnf)
  · rw [jnO, h3]
    rw [h1, Nat.zero_add] at c2
    (conv => whnf)
    (repeat' (first | (refine stg_ ?_) | (refine cla_ (c2) ?_) | (refine br_ (fun hbr => ?_) (fun hbr => ?_))))
    all_goals first | (exfalso; omega) | (refine RetOK.d rfl rfl ?_; conv => whnf)
def gfO (o : Option TJoin) (g form : Int) : Int :=
  match o with
  | none => g
  | some j => let out := if form = 1 then j.fInit else if form = 2 then j.fMedi else if form = 3 then j.fFina else -1
    if out < 0 then g else out
theorem formGlyph_v (f : TFeatures) (g form : Int) : PC Tryz.prog 145 [.d f.D, .d (.int .i64 g), .d (.int .i64 form)] (.d (.int .i64 (gfO (jnO f g) g form))) [] := by
  refine pc_intro ttOk (by kernel_rfl) Tryz.func145 rfl (by kernel_rfl) (by kernel_rfl) (by kernel_rfl) (fun hw => ?_)
  have c1 := joinOf_v f g
  rw [jnD] at c1
  cases hO : jnO f g with
  | none =>
    rw [hO] at c1
    (conv => whnf)
    (repeat' (first | (refine stg_ ?_) | (refine cla_ (c1) ?_) | (refine br_ (fun hbr => ?_) (fun hbr => ?_))))
    all_goals first | (exfalso; simp_all; done) | (refine RetOK.d rfl rfl ?_; conv => whnf)
    all_goals rfl
  | some j =>
    rw [hO] at c1
    (conv => whnf)
    (repeat' (first | (refine stg_ ?_) | (refine cla_ (c1) ?_) | (refine br_ (fun hbr => ?_) (fun hbr => ?_))))
    all_goals first | (exfalso; simp_all; done) | (refine RetOK.d rfl rfl ?_; conv => whnf)
    all_goals (simp only [Option.getD_some, Option.isSome_some] at *; simp only [gfO]; congr 1; repeat' split; all_goals omega)
def joL (f : TFeatures) (xs : List TItem) : List TJoin := xs.map fun x => jnD f x.fGlyph
def ksL (f : TFeatures) (xs : List TItem) : List Int := (joL f xs).map (·.fKind)
theorem joL_at {f : TFeatures} {xs : List TItem} {k : Nat} {x : TItem} (hx : xs[k]? = some x) : (joL f xs)[k]? = some (jnD f x.fGlyph) := by rw [joL, List.getElem?_map, hx]; rfl
theorem ksL_at {f : TFeatures} {xs : List TItem} {k : Nat} {x : TItem} (hx : xs[k]? = some x) : (ksL f xs)[k]? = some (jnD f x.fGlyph).fKind := by rw [ksL, List.getElem?_map, joL_at hx]; rfl
theorem set_mid {α : Type} (F R : List α) (z v : α) : (F ++ z :: R).set F.length v = F ++ v :: R := by
  rw [List.set_append_right _ _ (Nat.le_refl _), Nat.sub_self, List.set_cons_zero]
def fok (ks : List Int) (k : Nat) : List Int := formsG 0 (ks.take k) ++ List.replicate (ks.length - k) 0
theorem fok_len (ks : List Int) {k : Nat} (hk : k ≤ ks.length) : (fok ks k).length = ks.length := by
  rw [fok, List.length_append, formsG_len, List.length_replicate, List.length_take]; omega
theorem fok_all (ks : List Int) : fok ks ks.length = forms ks := by simp [fok, forms]
theorem rep_cons {n k : Nat} (h : k < n) : List.replicate (n - k) (0 : Int) = 0 :: List.replicate (n - (k + 1)) 0 := by
  rw [show n - k = (n - (k + 1)) + 1 by omega, List.replicate_succ]
theorem fok_3 {ks : List Int} {k : Nat} (h : ks[k]? = some 3) : fok ks (k + 1) = fok ks k := by
  have hk := (List.getElem?_eq_some_iff.1 h).1
  rw [fok, fok, take_snoc_get h, forms_snoc3, rep_cons hk, List.append_assoc]; rfl
theorem formN_0 (p c : Int) : formN p c 0 = if (p == 1 && bfr c) = true then 3 else 0 := by
  rw [formN, show (c == 1 && bfr 0) = false by simp [bfr], Bool.and_comm (bfr c)]; rfl
theorem fok_no {ks : List Int} {k : Nat} {c : Int} (h : ks[k]? = some c) (h3 : c ≠ 3) (hn : (lastF 0 (ks.take k) == 1 && bfr c) = false) : fok ks (k + 1) = fok ks k := by
  have hk := (List.getElem?_eq_some_iff.1 h).1
  have hz : formN (lastF 0 (ks.take k)) c 0 = 0 := by rw [formN_0, hn]; rfl
  rw [fok, fok, take_snoc_get h, forms_snoc h3, rep_cons hk, List.append_assoc, hz, hn]
  cases lastI (ks.take k) <;> rfl
theorem fok_yes {ks : List Int} {k j : Nat} {c : Int} (h : ks[k]? = some c) (h3 : c ≠ 3) (hl : lastI (ks.take k) = some j) (hn : (lastF 0 (ks.take k) == 1 && bfr c) = true) :
    fok ks (k + 1) = ((fok ks k).set j (if (fok ks k)[j]? = some 0 then 1 else 2)).set k 3 := by
  have hk := (List.getElem?_eq_some_iff.1 h).1
  obtain ⟨q, g1, -⟩ := lastI_some hl
  have hj : j < (formsG 0 (ks.take k)).length := by rw [formsG_len]; exact (List.getElem?_eq_some_iff.1 g1).1
  have hF : (formsG 0 (ks.take k)).length = k := by rw [formsG_len, List.length_take]; omega
  have hz : formN (lastF 0 (ks.take k)) c 0 = 3 := by rw [formN_0, hn]; rfl
  rw [fok, fok, take_snoc_get h, forms_snoc h3, rep_cons hk, hl, hz, List.set_append_left _ _ hj, List.getElem?_append_left hj]
  have := set_mid ((formsG 0 (ks.take k)).set j (if (formsG 0 (ks.take k))[j]? = some 0 then 1 else 2)) (List.replicate (ks.length - (k + 1)) 0) 0 3
  rw [List.length_set, hF] at this
  rw [this]
  simp only [hn, if_true]
  rw [List.append_assoc]; rfl
def prvI (ks : List Int) (k : Nat) : Int := match lastI (ks.take k) with | some j => (j : Int) | none => -1
theorem prvI_succ {ks : List Int} {k : Nat} {c : Int} (h : ks[k]? = some c) : prvI ks (k + 1) = if c = 3 then prvI ks k else (k : Int) := by
  have hk := (List.getElem?_eq_some_iff.1 h).1
  rw [prvI, take_snoc_get h, lastI_snoc]
  by_cases h3 : c = 3
  · rw [if_pos h3, if_pos h3]; rfl
  · rw [if_neg h3, if_neg h3, List.length_take, Nat.min_eq_left (by omega)]
theorem jnAfter_v (j : TJoin) : PC Tryz.prog 192 [.d j.D] (.d (.bool (j.fKind == 1))) [] := by
  refine pc_intro ttOk (by kernel_rfl) Tryz.func192 rfl (by kernel_rfl) (by kernel_rfl) (by kernel_rfl) (fun hw => ?_)
  (conv => whnf)
  (repeat' (first | (refine stg_ ?_) | fail | (refine br_ (fun hbr => ?_) (fun hbr => ?_))))
  (refine RetOK.d rfl rfl ?_; conv => whnf)
theorem jnBefore_v (j : TJoin) : PC Tryz.prog 193 [.d j.D] (.d (.bool (bfr j.fKind))) [] := by
  refine pc_intro ttOk (by kernel_rfl) Tryz.func193 rfl (by kernel_rfl) (by kernel_rfl) (by kernel_rfl) (fun hw => ?_)
  (conv => whnf)
  (repeat' (first | (refine stg_ ?_) | fail | (refine br_ (fun hbr => ?_) (fun hbr => ?_))))
  all_goals ((refine RetOK.d rfl rfl ?_; conv => whnf); simp_all [bfr])
set_option maxHeartbeats 4000000 in
theorem formsOf_v (f : TFeatures) (xs : List TItem) (hx : xs.length ≤ 1000) : PC Tryz.prog 144 [.d f.D, .d (.lst (xs.map TItem.D))] (.own 1 0 xs.length) [.arr 1 ((forms (ksL f xs)).map (D.int .i64)) true] := by
  refine pc_intro ttOk (by kernel_rfl) Tryz.func144 rfl (by kernel_rfl) (by kernel_rfl) (by kernel_rfl) (fun hw => ?_)
  have hL : (xs.map TItem.D).length = xs.length := List.length_map _
  have hJl : (joL f xs).length = xs.length := List.length_map _
  have hKl : (ksL f xs).length = xs.length := by rw [ksL, List.length_map, hJl]
  (conv => whnf)
  (repeat' (first | (refine stg_ ?_) | (refine MkW.at (by omega) (by omega) (by show ((40 : Nat) : Int) * _ ≤ 2 ^ 48; omega) ?_; (conv => whnf)) | (refine br_ (fun hbr => ?_) (fun hbr => ?_))))
  refine LoopW.go (α := Nat) (fun k => [(1, .d (.lst (xs.map TItem.D))), (2, .pB 1 [] 0), (5, .own 2 0 xs.length), (15, .d (.lst (xs.map TItem.D))), (16, .d (.int .i64 (xs.map TItem.D).length)), (17, .d (.int .i64 k))]) (fun k => [.gone, .box (.d f.D), .arr 5 (fillL TJoin.D jz.D (joL f xs) k) true]) (fun k => k ≤ xs.length) (fun k => xs.length - k) 0 (Weak.cov ⟨rfl, rfl, by (show V.own 2 0 ((xs.map TItem.D).length : Int).toNat = V.own 2 0 xs.length; rw [hL]; rfl), rfl, rfl, rfl, trivial⟩ ⟨trivial, rfl, by (rw [fillL_zero, hJl]; show Blk.arr 5 (List.replicate ((xs.map TItem.D).length : Int).toNat _) true = _; rw [hL]; rfl), trivial⟩ rfl) (by omega) (fun k hk => ?_)
  have hfl := fillL_len TJoin.D jz.D (joL f xs) k (by omega)
  (conv => whnf)
  (refine br_ (fun h1 => ?_) (fun h1 => ?_) <;> (repeat (refine stg_ ?_)))
  · obtain ⟨x, hkx⟩ := at_lt' (xs := xs) (k := k) (by omega)
    have hset := fillL_set TJoin.D jz.D (joL f xs) (joL_at (f := f) hkx)
    have hget := fillL_get TJoin.D jz.D (joL f xs) (k := k) (by omega)
    have c1 := joinOf_v f x.fGlyph
    generalize fillL TJoin.D jz.D (joL f xs) k = FL at *
    (repeat' (first | (refine stg_ ?_) | (refine cla_ (c1) ?_) | (refine br_ (fun hbr => ?_) (fun hbr => ?_))))
    all_goals first | (exfalso; omega) | skip
    refine NextW.go (k + 1) (Weak.cov ⟨rfl, rfl, rfl, rfl, rfl, rfl, trivial⟩ ⟨trivial, rfl, by rw [← hset]; rfl, trivial⟩ rfl) (by omega) (by omega)
  obtain rfl : k = xs.length := by omega
  have hfa : fillL TJoin.D jz.D (joL f xs) xs.length = (joL f xs).map TJoin.D := by rw [← hJl, fillL_all]
  rw [hfa]
  clear hfl hfa h1 hk
  (repeat' (first | (refine stg_ ?_) | (refine MkW.at (by omega) (by omega) (by show ((8 : Nat) : Int) * _ ≤ 2 ^ 48; omega) ?_; (conv => whnf)) | (refine br_ (fun hbr => ?_) (fun hbr => ?_))))
  have hK : ∀ (k : Nat) (x : TItem), xs[k]? = some x → (ksL f xs)[k]? = some (jnD f x.fGlyph).fKind := fun k x h => ksL_at h
  have hJ : ∀ (k : Nat) (x : TItem), xs[k]? = some x → (joL f xs)[k]? = some (jnD f x.fGlyph) := fun k x h => joL_at h
  have hKJ : ksL f xs = (joL f xs).map (·.fKind) := rfl
  generalize ksL f xs = ks at *
  generalize joL f xs = js at *
  have hJm : (js.map TJoin.D).length = xs.length := by rw [List.length_map, hJl]
  refine LoopW.go (α := Nat) (fun k => [(5, .own 2 0 xs.length), (8, .own 3 0 xs.length), (9, .d (.int .i64 (prvI ks k))), (36, .own 2 0 xs.length), (37, .d (.int .i64 xs.length)), (38, .d (.int .i64 k))]) (fun k => [.gone, .box (.d f.D), .arr 5 (js.map TJoin.D) true, .arr 1 ((fok ks k).map (D.int .i64)) true]) (fun k => k ≤ xs.length) (fun k => xs.length - k) 0 (Weak.cov ⟨rfl, by (show V.own 3 0 ((xs.map TItem.D).length : Int).toNat = V.own 3 0 xs.length; rw [hL]; rfl), rfl, rfl, rfl, rfl, trivial⟩ ⟨trivial, rfl, rfl, by (show Blk.arr 1 (List.replicate ((xs.map TItem.D).length : Int).toNat _) true = Blk.arr 1 ((fok ks 0).map (D.int .i64)) true; rw [hL]; simp [fok, formsG, hKl]), trivial⟩ rfl) (by omega) (fun k hk => ?_)
  have hfk := fok_len ks (k := k) (by omega)
  have hfm : ((fok ks k).map (D.int .i64)).length = xs.length := by rw [List.length_map, hfk, hKl]
  by_cases hlt : k < xs.length
  · obtain ⟨x, hkx⟩ := at_lt' (xs := xs) (k := k) hlt
    have e1 := hK k x hkx
    have e2 := hJ k x hkx
    have e2' : (js.map TJoin.D)[k]? = some (jnD f x.fGlyph).D := by rw [List.getElem?_map, e2]; rfl
    have hpn := prvI_succ e1
    by_cases h3 : (jnD f x.fGlyph).fKind = 3
    · rw [h3] at e1
      have hf3 := fok_3 e1
      rw [if_pos h3] at hpn
      generalize fok ks k = OUT at *
      (conv => whnf)
      (repeat' (first | (refine stg_ ?_) | fail | (refine br_ (fun hbr => ?_) (fun hbr => ?_))))
      all_goals first | (exfalso; omega) | (exfalso; simp_all; done) | skip
      refine NextW.go (k + 1) (Weak.cov ⟨rfl, rfl, by rw [hpn]; rfl, rfl, rfl, rfl, trivial⟩ ⟨trivial, rfl, rfl, by rw [hf3], trivial⟩ rfl) (by omega) (by omega)
    · rw [if_neg h3] at hpn
      have c3 := jnBefore_v (jnD f x.fGlyph)
      cases hl : lastI (ks.take k) with
      | none =>
        have hp : prvI ks k = -1 := by rw [prvI, hl]
        have hno := fok_no e1 h3 (by rw [(lastI_none hl).1 0]; rfl)
        generalize fok ks k = OUT at *
        rw [hp]
        (conv => whnf)
        (repeat' (first | (refine stg_ ?_) | fail | (refine br_ (fun hbr => ?_) (fun hbr => ?_))))
        all_goals first | (exfalso; omega) | (exfalso; simp_all; done) | skip
        refine NextW.go (k + 1) (Weak.cov ⟨rfl, rfl, by rw [hpn]; rfl, rfl, rfl, rfl, trivial⟩ ⟨trivial, rfl, rfl, by rw [hno], trivial⟩ rfl) (by omega) (by omega)
      | some j =>
        have hp : prvI ks k = (j : Int) := by rw [prvI, hl]
        obtain ⟨q, g1, g2, g3, -⟩ := lastI_some hl
        have hjk : j < k := by
          have := (List.getElem?_eq_some_iff.1 g1).1
          rw [List.length_take] at this; omega
        rw [List.getElem?_take, if_pos hjk, hKJ, List.getElem?_map] at g1
        obtain ⟨y, y1, y2⟩ := Option.map_eq_some_iff.1 g1
        have y1' : (js.map TJoin.D)[j]? = some y.D := by rw [List.getElem?_map, y1]; rfl
        have c2 := jnAfter_v y
        obtain ⟨v, hv⟩ := at_lt' (xs := fok ks k) (k := j) (by omega)
        have hv' : ((fok ks k).map (D.int .i64))[j]? = some (.int .i64 v) := by rw [List.getElem?_map, hv]; rfl
        have hno := fok_no (k := k) e1 h3
        have hyes := fok_yes (k := k) e1 h3 hl
        rw [g3 0, ← y2] at hno hyes
        rw [hv] at hyes
        rw [hp]
        obtain ⟨u, hu⟩ := at_lt' (xs := fok ks k) (k := k) (by omega)
        generalize fok ks k = OUT at *
        have hset : ∀ z : D, ((OUT.map (D.int .i64)).set ((j : Int).toNat + 0) z)[(k : Int).toNat + 0]? = some (.int .i64 u) := fun z => by
          rw [show (j : Int).toNat + 0 = j by omega, show (k : Int).toNat + 0 = k by omega, List.getElem?_set_ne (by omega), List.getElem?_map, hu]; rfl
        have hfin : ∀ z : Int, ((OUT.map (D.int .i64)).set ((j : Int).toNat + 0) (.int .i64 z)).set ((k : Int).toNat + 0) (.int .i64 3) = ((OUT.set j z).set k 3).map (D.int .i64) := fun z => by
          rw [show (j : Int).toNat + 0 = j by omega, show (k : Int).toNat + 0 = k by omega, List.map_set, List.map_set]
        (conv => whnf)
        (repeat' (first | (refine stg_ ?_) | (refine cla_ (c2) ?_) | (refine cla_ (c3) ?_) | (refine EoW.at (hset _) ?_; (conv => whnf)) | (refine br_ (fun hbr => ?_) (fun hbr => ?_))))
        all_goals first | (exfalso; omega) | skip
        · rw [if_pos (by congr 1)] at hyes
          refine NextW.go (k + 1) (Weak.cov ⟨rfl, rfl, by rw [hpn]; rfl, rfl, rfl, rfl, trivial⟩ ⟨trivial, rfl, rfl, by (rw [hyes (by simp_all)]; exact congrArg (fun l => Blk.arr 1 l true) (hfin 1)), trivial⟩ rfl) (by omega) (by omega)
        · rw [if_neg (by intro h; have := Option.some.inj h; omega)] at hyes
          refine NextW.go (k + 1) (Weak.cov ⟨rfl, rfl, by rw [hpn]; rfl, rfl, rfl, rfl, trivial⟩ ⟨trivial, rfl, rfl, by (rw [hyes (by simp_all)]; exact congrArg (fun l => Blk.arr 1 l true) (hfin 2)), trivial⟩ rfl) (by omega) (by omega)
        all_goals refine NextW.go (k + 1) (Weak.cov ⟨rfl, rfl, by rw [hpn]; rfl, rfl, rfl, rfl, trivial⟩ ⟨trivial, rfl, rfl, by (rw [hno (by simp_all)]), trivial⟩ rfl) (by omega) (by omega)
  · (conv => whnf)
    (repeat' (first | (refine stg_ ?_) | fail | (refine br_ (fun hbr => ?_) (fun hbr => ?_))))
    all_goals first | (exfalso; omega) | skip
    obtain rfl : k = xs.length := by omega
    rw [← hKl, fok_all]
    (refine ⟨⟨[some 3], ⟨by decide, rfl, trivial, trivial⟩, by decide, rfl, ?_⟩⟩; (conv => whnf); exact ⟨by decide, rfl⟩)
theorem ksL_len (f : TFeatures) (xs : List TItem) : (ksL f xs).length = xs.length := by rw [ksL, List.length_map, joL, List.length_map]
theorem l28Bf_v (n : Int) : PC Tryz.prog 224 [.d (.int .i64 n)] (.d (.bool (bfr n))) [] := by
  refine pc_intro ttOk (by kernel_rfl) Tryz.func224 rfl (by kernel_rfl) (by kernel_rfl) (by kernel_rfl) (fun hw => ?_)
  (conv => whnf)
  (repeat' (first | (refine stg_ ?_) | fail | (refine br_ (fun hbr => ?_) (fun hbr => ?_))))
  all_goals ((refine RetOK.d rfl rfl ?_; conv => whnf); simp_all [bfr])
theorem nearL_v (f : TFeatures) (xs : List TItem) (a : Nat) (ha : a < xs.length) (hx : xs.length ≤ 1000) : PC Tryz.prog 225 [.pX f.D, .d (.lst (xs.map TItem.D)), .d (.int .i64 a), .d (.int .i64 (-1))] (.d (.int .i64 (lastF 0 ((ksL f xs).take a)))) [] := by
  refine pc_intro ttOk (by kernel_rfl) Tryz.func225 rfl (by kernel_rfl) (by kernel_rfl) (by kernel_rfl) (fun hw => ?_)
  have hL : (xs.map TItem.D).length = xs.length := List.length_map _
  (conv => whnf)
  (repeat (refine stg_ ?_))
  refine LoopW.go (α := Nat) (fun n => [(0, .pX f.D), (1, .d (.lst (xs.map TItem.D))), (3, .d (.int .i64 (-1))), (9, .d (.int .i64 ((n : Int) - 1)))]) (fun _ => [.gone]) (fun n => n ≤ a ∧ lastF 0 ((ksL f xs).take a) = lastF 0 ((ksL f xs).take n)) (fun n => n) a (Weak.cov ⟨rfl, rfl, rfl, rfl, trivial⟩ ⟨trivial, trivial⟩ rfl) ⟨Nat.le_refl _, rfl⟩ (fun n hn => ?_)
  obtain ⟨hn1, hn2⟩ := hn
  cases n with
  | zero =>
    (conv => whnf)
    (repeat' (first | (refine stg_ ?_) | fail | (refine br_ (fun hbr => ?_) (fun hbr => ?_))))
    all_goals first | (exfalso; omega) | skip
    (refine RetOK.d rfl rfl ?_; conv => whnf)
    rw [hn2]; rfl
  | succ n =>
    obtain ⟨x, hkx⟩ := at_lt' (xs := xs) (k := n) (by omega)
    have c1 := l28Kind_v f x.fGlyph
    have hkx' : (xs.map TItem.D)[(((n + 1 : Nat) : Int) - 1).toNat]? = some x.D := by
      have : (((n + 1 : Nat) : Int) - 1).toNat = n := by omega
      rw [this, List.getElem?_map, hkx]; rfl
    rw [take_snoc_get (ksL_at (f := f) hkx), lastF_snoc] at hn2
    (conv => whnf)
    (repeat' (first | (refine stg_ ?_) | (refine cla_ (c1) ?_) | (refine IxW.at (by omega) hkx' ?_; (conv => whnf)) | (refine br_ (fun hbr => ?_) (fun hbr => ?_))))
    all_goals first | (exfalso; omega) | skip
    · (refine RetOK.d rfl rfl ?_; conv => whnf)
      rw [hn2, if_neg (by assumption)]
    · refine NextW.go n (Weak.cov ⟨rfl, rfl, rfl, (by (show V.d (.int .i64 _) = V.d (.int .i64 _)); congr 2; omega), trivial⟩ ⟨trivial, trivial⟩ rfl) ⟨by omega, by rw [hn2, if_pos (by assumption)]⟩ (by omega)
theorem nearR_v (f : TFeatures) (xs : List TItem) (a : Nat) (ha : a < xs.length) (hx : xs.length ≤ 1000) : PC Tryz.prog 225 [.pX f.D, .d (.lst (xs.map TItem.D)), .d (.int .i64 a), .d (.int .i64 1)] (.d (.int .i64 (nxtK ((ksL f xs).drop (a + 1))))) [] := by
  refine pc_intro ttOk (by kernel_rfl) Tryz.func225 rfl (by kernel_rfl) (by kernel_rfl) (by kernel_rfl) (fun hw => ?_)
  have hL : (xs.map TItem.D).length = xs.length := List.length_map _
  (conv => whnf)
  (repeat (refine stg_ ?_))
  refine LoopW.go (α := Nat) (fun n => [(0, .pX f.D), (1, .d (.lst (xs.map TItem.D))), (3, .d (.int .i64 1)), (9, .d (.int .i64 (n : Int)))]) (fun _ => [.gone]) (fun n => n ≤ xs.length ∧ nxtK ((ksL f xs).drop (a + 1)) = nxtK ((ksL f xs).drop n)) (fun n => xs.length - n) (a + 1) (Weak.cov ⟨rfl, rfl, rfl, rfl, trivial⟩ ⟨trivial, trivial⟩ rfl) ⟨by omega, rfl⟩ (fun n hn => ?_)
  obtain ⟨hn1, hn2⟩ := hn
  by_cases hlt : n < xs.length
  · obtain ⟨x, hkx⟩ := at_lt' (xs := xs) (k := n) hlt
    have c1 := l28Kind_v f x.fGlyph
    rw [drop_at (ksL_at (f := f) hkx), nxtK] at hn2
    (conv => whnf)
    (repeat' (first | (refine stg_ ?_) | (refine cla_ (c1) ?_) | (refine br_ (fun hbr => ?_) (fun hbr => ?_))))
    all_goals first | (exfalso; omega) | skip
    · (refine RetOK.d rfl rfl ?_; conv => whnf)
      rw [hn2, if_neg (by assumption)]
    · refine NextW.go (n + 1) (Weak.cov ⟨rfl, rfl, rfl, rfl, trivial⟩ ⟨trivial, trivial⟩ rfl) ⟨by omega, by rw [hn2, if_pos (by assumption)]⟩ (by omega)
  · (conv => whnf)
    (repeat' (first | (refine stg_ ?_) | fail | (refine br_ (fun hbr => ?_) (fun hbr => ?_))))
    all_goals first | (exfalso; omega) | skip
    (refine RetOK.d rfl rfl ?_; conv => whnf)
    rw [hn2, List.drop_eq_nil_of_le (by rw [ksL_len]; omega)]; rfl
theorem forms_at {f : TFeatures} {xs : List TItem} {k : Nat} {x : TItem} (hx : xs[k]? = some x) : (forms (ksL f xs))[k]? = some (formN (lastF 0 ((ksL f xs).take k)) (jnD f x.fGlyph).fKind (nxtK ((ksL f xs).drop (k + 1)))) :=
  formsG_get _ _ _ _ (ksL_at hx)
set_option maxHeartbeats 4000000 in
theorem l28Forms_v (f : TFeatures) (xs : List TItem) (hx : xs.length ≤ 1000) : PC Tryz.prog 185 [.pX f.D, .d (.lst (xs.map TItem.D))] (.own 1 0 xs.length) [.arr 1 ((forms (ksL f xs)).map (D.int .i64)) true] := by
  refine pc_intro ttOk (by kernel_rfl) Tryz.func185 rfl (by kernel_rfl) (by kernel_rfl) (by kernel_rfl) (fun hw => ?_)
  have hL : (xs.map TItem.D).length = xs.length := List.length_map _
  have hFl : (forms (ksL f xs)).length = xs.length := by rw [forms, formsG_len, ksL_len]
  (conv => whnf)
  (repeat (refine stg_ ?_))
  refine LoopW.go (α := Nat) (fun k => [(0, .pX f.D), (1, .d (.lst (xs.map TItem.D))), (5, .own 1 0 k), (6, .d (.int .i64 k))]) (fun k => [.gone, .arr 1 (((forms (ksL f xs)).take k).map (D.int .i64)) true]) (fun k => k ≤ xs.length) (fun k => xs.length - k) 0 covT_ (by omega) (fun k hk => ?_)
  have hTl : (((forms (ksL f xs)).take k).map (D.int .i64)).length = k := by rw [List.length_map, List.length_take]; omega
  by_cases hlt : k < xs.length
  · obtain ⟨x, hkx⟩ := at_lt' (xs := xs) (k := k) hlt
    have c1 := l28Kind_v f x.fGlyph
    have c2 := l28Bf_v (jnD f x.fGlyph).fKind
    have c3 := nearL_v f xs k hlt hx
    have c4 := nearR_v f xs k hlt hx
    have c5 := l28Bf_v (nxtK ((ksL f xs).drop (k + 1)))
    have hS : ((forms (ksL f xs)).take (k + 1)).map (D.int .i64) = ((forms (ksL f xs)).take k).map (D.int .i64) ++ [.int .i64 (formN (lastF 0 ((ksL f xs).take k)) (jnD f x.fGlyph).fKind (nxtK ((ksL f xs).drop (k + 1))))] := by rw [take_snoc_get (forms_at hkx), List.map_append]; rfl
    have hN : ∀ p c n, formN p c n = if (bfr c && p == 1) = true then (if (c == 1 && bfr n) = true then 2 else 3) else if (c == 1 && bfr n) = true then 1 else 0 := fun _ _ _ => rfl
    rw [hN] at hS
    generalize lastF 0 ((ksL f xs).take k) = p at *
    generalize nxtK ((ksL f xs).drop (k + 1)) = n at *
    generalize (jnD f x.fGlyph).fKind = c at *
    generalize ((forms (ksL f xs)).take k).map (D.int .i64) = T0 at *
    (conv => whnf)
    (repeat' (first | (refine stg_ ?_) | (refine cla_ (c1) ?_) | (refine cla_ (c2) ?_) | (refine cla_ (c3) ?_) | (refine cla_ (c4) ?_) | (refine cla_ (c5) ?_) | (refine br_ (fun hbr => ?_) (fun hbr => ?_))))
    all_goals first | (exfalso; omega) | (exfalso; simp_all; done) | skip
    all_goals refine NextW.go (k + 1) (Weak.cov ⟨rfl, rfl, (by (show V.own 1 0 _ = V.own 1 0 (k + 1)); first | rfl | (congr 1)), rfl, trivial⟩ ⟨trivial, (by (rw [hS, List.take_of_length_le (by omega)]; simp_all; done)), trivial⟩ rfl) (by omega) (by omega)
  · (conv => whnf)
    (repeat' (first | (refine stg_ ?_) | fail | (refine br_ (fun hbr => ?_) (fun hbr => ?_))))
    all_goals first | (exfalso; omega) | skip
    obtain rfl : k = xs.length := by omega
    rw [List.take_of_length_le (by omega)]
    (refine ⟨⟨[some 1], ⟨by decide, rfl, trivial, trivial⟩, by decide, rfl, ?_⟩⟩; (conv => whnf); exact ⟨by decide, rfl⟩)
set_option maxHeartbeats 1000000 in
theorem l28Gl_v (f : TFeatures) (g form : Int) : PC Tryz.prog 186 [.pX f.D, .d (.int .i64 g), .d (.int .i64 form)] (.d (.int .i64 (gfO (jnO f g) g form))) [] := by
  refine pc_intro ttOk (by kernel_rfl) Tryz.func186 rfl (by kernel_rfl) (by kernel_rfl) (by kernel_rfl) (fun hw => ?_)
  have hJ : (f.fJoins.map TJoin.D).length = f.fJoins.length := List.length_map _
  have c2 := l28Join_v f g
  have c3 := l00In_v form 1 3
  rcases fdx_find (jnP g) f.fJoins 0 with ⟨h1, h2⟩ | ⟨i, x, h1, h2, h3⟩
  · rw [jnO, h2]
    rw [h1] at c2
    (conv => whnf)
    (repeat' (first | (refine stg_ ?_) | (refine cla_ (c2) ?_) | (refine cla_ (c3) ?_) | (refine br_ (fun hbr => ?_) (fun hbr => ?_))))
    all_goals first | (exfalso; omega) | (refine RetOK.d rfl rfl ?_; conv => whnf)
    all_goals rfl
  · rw [jnO, h3]
    rw [h1, Nat.zero_add] at c2
    by_cases hf : inB form 1 3 = true
    · rw [hf] at c3
      have hf' : form = 1 ∨ form = 2 ∨ form = 3 := by simp [inB] at hf; omega
      have hx' : (f.fJoins.map TJoin.D)[i]? = some x.D := by rw [List.getElem?_map, h2]; rfl
      rcases hf' with rfl | rfl | rfl
      · have hv : gfO (some x) g 1 = if x.fInit < 0 then g else x.fInit := rfl
        rw [hv]
        have he : [D.int .i64 x.fInit, D.int .i64 x.fMedi, D.int .i64 x.fFina][0]? = some (D.int .i64 x.fInit) := rfl
        (conv => whnf)
        (repeat' (first | (refine stg_ ?_) | (refine cla_ (c2) ?_) | (refine cla_ (c3) ?_) | (refine EoW.at he ?_; (conv => whnf)) | (refine br_ (fun hbr => ?_) (fun hbr => ?_))))
        all_goals first | (exfalso; omega) | (exfalso; simp_all; done) | ((refine RetOK.d rfl rfl ?_; conv => whnf); simp_all; done) | ((refine RetOK.d rfl rfl ?_; conv => whnf); rw [if_neg (by omega)])
      · have hv : gfO (some x) g 2 = if x.fMedi < 0 then g else x.fMedi := rfl
        rw [hv]
        have he : [D.int .i64 x.fInit, D.int .i64 x.fMedi, D.int .i64 x.fFina][1]? = some (D.int .i64 x.fMedi) := rfl
        (conv => whnf)
        (repeat' (first | (refine stg_ ?_) | (refine cla_ (c2) ?_) | (refine cla_ (c3) ?_) | (refine EoW.at he ?_; (conv => whnf)) | (refine br_ (fun hbr => ?_) (fun hbr => ?_))))
        all_goals first | (exfalso; omega) | (exfalso; simp_all; done) | ((refine RetOK.d rfl rfl ?_; conv => whnf); simp_all; done) | ((refine RetOK.d rfl rfl ?_; conv => whnf); rw [if_neg (by omega)])
      · have hv : gfO (some x) g 3 = if x.fFina < 0 then g else x.fFina := rfl
        rw [hv]
        have he : [D.int .i64 x.fInit, D.int .i64 x.fMedi, D.int .i64 x.fFina][2]? = some (D.int .i64 x.fFina) := rfl
        (conv => whnf)
        (repeat' (first | (refine stg_ ?_) | (refine cla_ (c2) ?_) | (refine cla_ (c3) ?_) | (refine EoW.at he ?_; (conv => whnf)) | (refine br_ (fun hbr => ?_) (fun hbr => ?_))))
        all_goals first | (exfalso; omega) | (exfalso; simp_all; done) | ((refine RetOK.d rfl rfl ?_; conv => whnf); simp_all; done) | ((refine RetOK.d rfl rfl ?_; conv => whnf); rw [if_neg (by omega)])
    · have hf0 : inB form 1 3 = false := by simpa using hf
      rw [hf0] at c3
      have hv : gfO (some x) g form = g := by
        simp [inB] at hf
        have n1 : ¬ form = 1 := by omega
        have n2 : ¬ form = 2 := by omega
        have n3 : ¬ form = 3 := by omega
        simp only [gfO]
        rw [if_neg n1, if_neg n2, if_neg n3]
        rfl
      rw [hv]
      (conv => whnf)
      (repeat' (first | (refine stg_ ?_) | (refine cla_ (c2) ?_) | (refine cla_ (c3) ?_) | (refine br_ (fun hbr => ?_) (fun hbr => ?_))))
      all_goals first | (exfalso; omega) | (exfalso; simp_all; done) | (refine RetOK.d rfl rfl ?_; conv => whnf)
def jrI (f : TFeatures) (x : TItem) (form : Int) : TItem := ⟨gfO (jnO f x.fGlyph) x.fGlyph form, x.fFrom, x.fLen⟩
def jrL (f : TFeatures) (xs : List TItem) : List TItem := List.zipWith (jrI f) xs (forms (ksL f xs))
theorem forms_len' (f : TFeatures) (xs : List TItem) : (forms (ksL f xs)).length = xs.length := by rw [forms, formsG_len, ksL_len]
theorem jrL_len (f : TFeatures) (xs : List TItem) : (jrL f xs).length = xs.length := by rw [jrL, List.length_zipWith, forms_len']; omega
theorem jrL_at {f : TFeatures} {xs : List TItem} {k : Nat} {x : TItem} {m : Int} (hx : xs[k]? = some x) (hm : (forms (ksL f xs))[k]? = some m) : (jrL f xs)[k]? = some (jrI f x m) := by
  rw [jrL, List.getElem?_zipWith, hx, hm]
def jrK (f : TFeatures) (xs : List TItem) (k : Nat) : List TItem := (jrL f xs).take k ++ xs.drop k
theorem jrK_0 (f : TFeatures) (xs : List TItem) : jrK f xs 0 = xs := by simp [jrK]
theorem jrK_all (f : TFeatures) (xs : List TItem) : jrK f xs xs.length = jrL f xs := by
  rw [jrK, List.drop_length, List.append_nil, List.take_of_length_le (by rw [jrL_len]; omega)]
theorem jrK_len (f : TFeatures) (xs : List TItem) {k : Nat} (hk : k ≤ xs.length) : (jrK f xs k).length = xs.length := by
  rw [jrK, List.length_append, List.length_take, List.length_drop, jrL_len]; omega
theorem jrK_get {f : TFeatures} {xs : List TItem} {k : Nat} {x : TItem} (hx : xs[k]? = some x) : (jrK f xs k)[k]? = some x := by
  have hk := (List.getElem?_eq_some_iff.1 hx).1
  have hl : ((jrL f xs).take k).length = k := by rw [List.length_take, jrL_len]; omega
  rw [jrK, List.getElem?_append_right (by omega), hl, Nat.sub_self, List.getElem?_drop]; simpa using hx
theorem jrK_set {f : TFeatures} {xs : List TItem} {k : Nat} {x y : TItem} (hx : xs[k]? = some x) (hy : (jrL f xs)[k]? = some y) : (jrK f xs k).set k y = jrK f xs (k + 1) := by
  have hk := (List.getElem?_eq_some_iff.1 hx).1
  have hl : ((jrL f xs).take k).length = k := by rw [List.length_take, jrL_len]; omega
  have := set_mid ((jrL f xs).take k) (xs.drop (k + 1)) x y
  rw [hl] at this
  rw [jrK, jrK, drop_at hx, this, take_snoc_get hy, List.append_assoc]; rfl
set_option maxHeartbeats 4000000 in
theorem joinRun_v (f : TFeatures) (xs : List TItem) (hx : xs.length ≤ 1000) : PC Tryz.prog 90 [.d f.D, .d (.lst (xs.map TItem.D))] (.own 1 0 xs.length) [.arr 3 ((jrL f xs).map TItem.D) true] := by
  refine pc_intro ttOk (by kernel_rfl) Tryz.func90 rfl (by kernel_rfl) (by kernel_rfl) (by kernel_rfl) (fun hw => ?_)
  have hL : (xs.map TItem.D).length = xs.length := List.length_map _
  have c0 := cloneItem_v xs (by omega)
  have c1 := formsOf_v f xs hx
  have hFl := forms_len' f xs
  (conv => whnf)
  (repeat' (first | (refine stg_ ?_) | (refine cla_ (c0) ?_) | (refine cla_ (c1) ?_) | (refine br_ (fun hbr => ?_) (fun hbr => ?_))))
  refine LoopW.go (α := Nat) (fun k => [(1, .d (.lst (xs.map TItem.D))), (2, .pB 1 [] 0), (5, .own 2 0 xs.length), (12, .own 3 0 xs.length), (13, .d (.int .i64 xs.length)), (14, .d (.int .i64 k))]) (fun k => [.gone, .box (.d f.D), .arr 3 ((jrK f xs k).map TItem.D) true, .arr 1 ((forms (ksL f xs)).map (D.int .i64)) true]) (fun k => k ≤ xs.length) (fun k => xs.length - k) 0 (Weak.cov ⟨rfl, rfl, rfl, rfl, rfl, rfl, trivial⟩ ⟨trivial, rfl, by rw [jrK_0], rfl, trivial⟩ rfl) (by omega) (fun k hk => ?_)
  have hJl := jrK_len f xs hk
  have hJm : ((jrK f xs k).map TItem.D).length = xs.length := by rw [List.length_map, hJl]
  have hFm : ((forms (ksL f xs)).map (D.int .i64)).length = xs.length := by rw [List.length_map, hFl]
  by_cases hlt : k < xs.length
  · obtain ⟨x, hkx⟩ := at_lt' (xs := xs) (k := k) hlt
    obtain ⟨m, hm⟩ := at_lt' (xs := forms (ksL f xs)) (k := k) (by omega)
    have hm' : ((forms (ksL f xs)).map (D.int .i64))[k]? = some (.int .i64 m) := by rw [List.getElem?_map, hm]; rfl
    have hg : ((jrK f xs k).map TItem.D)[k]? = some x.D := by rw [List.getElem?_map, jrK_get hkx]; rfl
    have hs : ((jrK f xs k).map TItem.D).set k (jrI f x m).D = (jrK f xs (k + 1)).map TItem.D := by rw [← jrK_set hkx (jrL_at hkx hm), List.map_set]
    have c2 := formGlyph_v f x.fGlyph m
    have hI : (jrI f x m).D = .st [.int .i64 (gfO (jnO f x.fGlyph) x.fGlyph m), .int .i64 x.fFrom, .int .i64 x.fLen] := rfl
    generalize (jrK f xs k).map TItem.D = OUT at *
    generalize gfO (jnO f x.fGlyph) x.fGlyph m = G at *
    (conv => whnf)
    (repeat' (first | (refine stg_ ?_) | (refine cla_ (c2) ?_) | (refine br_ (fun hbr => ?_) (fun hbr => ?_))))
    all_goals first | (exfalso; omega) | skip
    refine NextW.go (k + 1) (Weak.cov ⟨rfl, rfl, rfl, rfl, rfl, rfl, trivial⟩ ⟨trivial, rfl, by (rw [← hs, hI]; rfl), rfl, trivial⟩ rfl) (by omega) (by omega)
  · (conv => whnf)
    (repeat' (first | (refine stg_ ?_) | fail | (refine br_ (fun hbr => ?_) (fun hbr => ?_))))
    all_goals first | (exfalso; omega) | skip
    obtain rfl : k = xs.length := by omega
    rw [jrK_all]
    (refine ⟨⟨[some 2], ⟨by decide, rfl, trivial, trivial⟩, by decide, rfl, ?_⟩⟩; (conv => whnf); exact ⟨by decide, rfl⟩)
set_option maxHeartbeats 4000000 in
theorem l28Run_v (f : TFeatures) (xs : List TItem) (hx : xs.length ≤ 1000) : PC Tryz.prog 140 [.pX f.D, .d (.lst (xs.map TItem.D))] (.own 1 0 xs.length) [.arr 3 ((jrL f xs).map TItem.D) true] := by
  refine pc_intro ttOk (by kernel_rfl) Tryz.func140 rfl (by kernel_rfl) (by kernel_rfl) (by kernel_rfl) (fun hw => ?_)
  have hL : (xs.map TItem.D).length = xs.length := List.length_map _
  have c1 := l28Forms_v f xs hx
  have hFl := forms_len' f xs
  (conv => whnf)
  (repeat' (first | (refine stg_ ?_) | (refine cla_ (c1) ?_) | (refine br_ (fun hbr => ?_) (fun hbr => ?_))))
  refine LoopW.go (α := Nat) (fun k => [(0, .pX f.D), (1, .d (.lst (xs.map TItem.D))), (5, .own 1 0 xs.length), (6, .own 2 0 xs.length), (7, .d (.int .i64 k))]) (fun k => [.gone, .arr 1 ((forms (ksL f xs)).map (D.int .i64)) true, .arr 3 ((jrK f xs k).map TItem.D) true]) (fun k => k ≤ xs.length) (fun k => xs.length - k) 0 (Weak.cov ⟨rfl, rfl, rfl, by (show V.own 2 0 (0 + (xs.map TItem.D).length) = V.own 2 0 xs.length; rw [Nat.zero_add, hL]), rfl, trivial⟩ ⟨trivial, rfl, by (show Blk.arr 3 ([] ++ xs.map TItem.D) true = _; rw [jrK_0]; rfl), trivial⟩ rfl) (by omega) (fun k hk => ?_)
  have hJl := jrK_len f xs hk
  have hJm : ((jrK f xs k).map TItem.D).length = xs.length := by rw [List.length_map, hJl]
  have hFm : ((forms (ksL f xs)).map (D.int .i64)).length = xs.length := by rw [List.length_map, hFl]
  by_cases hlt : k < xs.length
  · obtain ⟨x, hkx⟩ := at_lt' (xs := xs) (k := k) hlt
    obtain ⟨m, hm⟩ := at_lt' (xs := forms (ksL f xs)) (k := k) (by omega)
    have hm' : ((forms (ksL f xs)).map (D.int .i64))[k]? = some (.int .i64 m) := by rw [List.getElem?_map, hm]; rfl
    have hg : ((jrK f xs k).map TItem.D)[k]? = some x.D := by rw [List.getElem?_map, jrK_get hkx]; rfl
    have hs : ((jrK f xs k).map TItem.D).set k (jrI f x m).D = (jrK f xs (k + 1)).map TItem.D := by rw [← jrK_set hkx (jrL_at hkx hm), List.map_set]
    have c2 := l28Gl_v f x.fGlyph m
    have hI : (jrI f x m).D = .st [.int .i64 (gfO (jnO f x.fGlyph) x.fGlyph m), .int .i64 x.fFrom, .int .i64 x.fLen] := rfl
    generalize (jrK f xs k).map TItem.D = OUT at *
    generalize gfO (jnO f x.fGlyph) x.fGlyph m = G at *
    (conv => whnf)
    (repeat' (first | (refine stg_ ?_) | (refine cla_ (c2) ?_) | (refine br_ (fun hbr => ?_) (fun hbr => ?_))))
    all_goals first | (exfalso; omega) | skip
    refine NextW.go (k + 1) (Weak.cov ⟨rfl, rfl, rfl, rfl, rfl, trivial⟩ ⟨trivial, rfl, by (rw [← hs, hI]; rfl), trivial⟩ rfl) (by omega) (by omega)
  · (conv => whnf)
    (repeat' (first | (refine stg_ ?_) | fail | (refine br_ (fun hbr => ?_) (fun hbr => ?_))))
    all_goals first | (exfalso; omega) | skip
    obtain rfl : k = xs.length := by omega
    rw [jrK_all]
    (refine ⟨⟨[some 2], ⟨by decide, rfl, trivial, trivial⟩, by decide, rfl, ?_⟩⟩; (conv => whnf); exact ⟨by decide, rfl⟩)
theorem Weak.freeze {e : Env} {h : List Blk} (k : Nat) {b n off len : Nat} {xs : List D} {dp : Bool} (hk : gt e k = .own b off len) (hb : h[b]? = some (.arr n xs dp)) (hb0 : Nat.ble 1 b = true) (hl : off + len ≤ xs.length) :
    Weak e h ((k, .d (.lst ((xs.drop off).take len))) :: dropE [b] e) ((dropK [b] h).set b (.arr n [] true)) := fun B X N M a w R => by
  have hb1 := Nat.le_of_ble_eq_true hb0
  have hr := R.env k
  rw [hk] at hr
  obtain ⟨M', R', hd⟩ := R.give (by omega) hb hl (rep_own.1 hr)
  exact ⟨M', R'.know (rep_of_rep1 (v := .d (.lst ((xs.drop off).take len))) hd)⟩
theorem Weak.freezeA {e : Env} {h : List Blk} (k : Nat) {b n len : Nat} {xs : List D} {dp : Bool} (hk : gt e k = .own b 0 len) (hb : h[b]? = some (.arr n xs dp)) (hb0 : Nat.ble 1 b = true) (hl : len = xs.length) :
    Weak e h ((k, .d (.lst xs)) :: dropE [b] e) ((dropK [b] h).set b (.arr n [] true)) := by
  have := Weak.freeze k hk hb hb0 (by omega)
  rwa [List.drop_zero, List.take_of_length_le (by omega)] at this
theorem PC.weak {P : Program} {f : FuncId} {As : List V} {v v' : V} {bs bs' : List Blk} (pc : PC P f As v bs) (hw : Weak [(0, v)] (.gone :: bs) [(0, v')] (.gone :: bs')) : PC P f As v' bs' where
  fn := pc.fn
  run w X args h1 h2 h3 := by
    refine (pc.run w X args h1 h2 h3).mono ?_
    rintro en w' ⟨cv, M', rfl, hx, hI, hr⟩
    have R : Rep w X 1 (mX X :: M') [(0, v)] (.gone :: bs) { tmps := #[cv], defers := [] } w' := ⟨hx, hI, fun k => by
      rw [gt_cons]
      by_cases hk : 0 = k
      · subst hk; rw [if_pos rfl]; exact hr
      · rw [if_neg hk]; trivial, rfl, rfl, rfl, rfl⟩
    obtain ⟨M2, R2⟩ := hw _ _ _ _ _ _ R
    have hf := R2.fr
    have hl := R2.inv.len
    match M2, hf, R2 with
    | m :: M3, hf, R2 =>
      have hm : m = mX X := by simpa using hf
      subst hm
      exact ⟨cv, M3, rfl, hx, R2.inv, R2.env 0⟩
theorem PC.freeze {P : Program} {f : FuncId} {As : List V} {n len : Nat} {xs : List D} {dp : Bool} (pc : PC P f As (.own 1 0 len) [.arr n xs dp]) (hl : len = xs.length) : PC P f As (.d (.lst xs)) [] :=
  pc.weak (Weak.trans (Weak.freezeA 0 rfl rfl rfl hl) (Weak.cov ⟨rfl, trivial⟩ ⟨trivial, trivial⟩ rfl))
def ptI (n : Int) : List Int → List Int
  | [] => [n]
  | x :: t => if n ≤ x then (if n < x then n :: x :: t else x :: t) else x :: ptI n t
def ptS (o : List Int) (g : Int) : List Int := if 0 ≤ g then ptI g o else o
def ptA (o : List Int) (l : List Int) : List Int := l.foldl ptS o
theorem ptA_app (o a b : List Int) : ptA o (a ++ b) = ptA (ptA o a) b := List.foldl_append
theorem ptA_nil (o : List Int) : ptA o [] = o := rfl
theorem ptA_snoc {o xs : List Int} {k : Nat} {x : Int} (h : xs[k]? = some x) : ptA o (xs.take (k + 1)) = ptS (ptA o (xs.take k)) x := by
  rw [take_snoc_get h, ptA_app]; rfl
theorem mem_ptI (n : Int) : ∀ (xs : List Int) (x : Int), x ∈ ptI n xs ↔ x = n ∨ x ∈ xs
  | [], x => by simp [ptI]
  | y :: t, x => by
    rw [ptI]
    split
    · split
      · simp
      · have : y = n := by omega
        subst this
        simp
    · rw [List.mem_cons, mem_ptI n t x, List.mem_cons]
      constructor
      · rintro (h | h | h)
        · exact .inr (.inl h)
        · exact .inl h
        · exact .inr (.inr h)
      · rintro (h | h | h)
        · exact .inr (.inl h)
        · exact .inl h
        · exact .inr (.inr h)
theorem mem_ptA : ∀ (l o : List Int) (x : Int), x ∈ ptA o l ↔ (x ∈ l ∧ 0 ≤ x) ∨ x ∈ o
  | [], o, x => by simp [ptA]
  | g :: l, o, x => by
    show x ∈ ptA (ptS o g) l ↔ _
    rw [mem_ptA l (ptS o g) x, List.mem_cons]
    unfold ptS
    split
    · rename_i hg
      rw [mem_ptI]
      constructor
      · rintro (⟨h1, h2⟩ | rfl | h)
        · exact .inl ⟨.inr h1, h2⟩
        · exact .inl ⟨.inl rfl, hg⟩
        · exact .inr h
      · rintro (⟨rfl | h1, h2⟩ | h)
        · exact .inr (.inl rfl)
        · exact .inl ⟨h1, h2⟩
        · exact .inr (.inr h)
    · rename_i hg
      constructor
      · rintro (⟨h1, h2⟩ | h)
        · exact .inl ⟨.inr h1, h2⟩
        · exact .inr h
      · rintro (⟨rfl | h1, h2⟩ | h)
        · exact absurd h2 hg
        · exact .inl ⟨h1, h2⟩
        · exact .inr h
def rsG : Int → List Int → Prop
  | _, [] => True
  | q, x :: t => q < x ∧ rsG x t
theorem rsG_ptI (n : Int) : ∀ (xs : List Int) (q : Int), q < n → rsG q xs → rsG q (ptI n xs)
  | [], q, h, _ => ⟨h, trivial⟩
  | x :: t, q, h, ⟨h1, h2⟩ => by
    rw [ptI]
    split
    · split
      · exact ⟨h, by assumption, h2⟩
      · exact ⟨h1, h2⟩
    · exact ⟨h1, rsG_ptI n t x (by omega) h2⟩
theorem rsG_cnt : ∀ (xs : List Int) (q b : Int), rsG q xs → (∀ x ∈ xs, x ≤ b) → q ≤ b → (xs.length : Int) ≤ b - q
  | [], q, b, _, _, h => by simp; omega
  | x :: t, q, b, ⟨h1, h2⟩, hb, h => by
    have h3 := hb x (by simp)
    have := rsG_cnt t x b h2 (fun y hy => hb y (by simp [hy])) h3
    rw [List.length_cons]; omega
theorem rsG_last : ∀ (xs : List Int) (q z : Int), rsG q xs → xs[xs.length - 1]? = some z → ∀ x ∈ xs, x ≤ z
  | [], _, _, _, _, x, h => by simp at h
  | [y], q, z, _, hz, x, hx => by simp at hz hx; omega
  | y :: w :: t, q, z, h, hz, x, hx => by
    have ih := rsG_last (w :: t) y z h.2 (by simpa using hz)
    rcases List.mem_cons.1 hx with rfl | hx
    · have := ih w (by simp)
      have := h.2.1
      omega
    · exact ih x hx
structure Bd (o : List Int) : Prop where
  rs : rsG (-1) o
  le : ∀ x ∈ o, x ≤ 39
theorem Bd.nil : Bd [] := ⟨trivial, by simp⟩
theorem Bd.len {o : List Int} (H : Bd o) : o.length ≤ 40 := by
  have := rsG_cnt o (-1) 39 H.rs H.le (by omega)
  omega
theorem Bd.put {o : List Int} (H : Bd o) {g : Int} (h : g ≤ 39) : Bd (ptS o g) := by
  unfold ptS
  split
  · refine ⟨rsG_ptI g o (-1) (by omega) H.rs, fun x hx => ?_⟩
    rcases (mem_ptI g o x).1 hx with rfl | hx
    · exact h
    · exact H.le x hx
  · exact H
theorem Bd.all : ∀ {l o : List Int}, Bd o → (∀ g ∈ l, g ≤ 39) → Bd (ptA o l)
  | [], _, H, _ => H
  | g :: l, o, H, h => Bd.all (l := l) (o := ptS o g) (H.put (h g (by simp))) (fun x hx => h x (by simp [hx]))
theorem ptA_filter : ∀ (l o : List Int), ptA o (l.filter fun g => decide (0 ≤ g)) = ptA o l
  | [], _ => rfl
  | g :: l, o => by
    by_cases h : 0 ≤ g
    · rw [List.filter_cons_of_pos (by simpa using h)]
      exact ptA_filter l (ptS o g)
    · rw [List.filter_cons_of_neg (by simpa using h)]
      show _ = ptA (ptS o g) l
      rw [show ptS o g = o by unfold ptS; rw [if_neg h]]
      exact ptA_filter l o
theorem ptA_jn (o : List Int) (j : TJoin) (h : 0 ≤ j.fGlyph) : ptA o [j.fGlyph, j.fInit, j.fMedi, j.fFina] = ptA o (jnGl j) := by
  rw [jnGl]
  show ptA (ptS o j.fGlyph) _ = ptA (ptS o j.fGlyph) _
  rw [ptA_filter]
theorem fits_last {f : TFeatures} {u : List Int} (hu : u = ptA [] (usG f)) (hB : Bd u) (h0 : ∀ g ∈ usG f, 0 ≤ g) (g : Int) : ((usG f).all fun x => decide (x < g)) = match u[u.length - 1]? with | some z => decide (z < g) | none => true := by
  have hm : ∀ x, x ∈ u ↔ x ∈ usG f := fun x => by
    rw [hu, mem_ptA]
    constructor
    · rintro (⟨h, _⟩ | h)
      · exact h
      · simp at h
    · exact fun h => .inl ⟨h, h0 x h⟩
  cases hz : u[u.length - 1]? with
  | none =>
    have hl : u = [] := by
      cases u with
      | nil => rfl
      | cons y t => simp at hz
    dsimp only
    rw [List.all_eq_true]
    intro x hx
    have := (hm x).2 hx
    rw [hl] at this
    simp at this
  | some z =>
    dsimp only
    have hlast := rsG_last u (-1) z hB.rs hz
    rw [Bool.eq_iff_iff, List.all_eq_true, decide_eq_true_iff]
    constructor
    · intro h
      exact of_decide_eq_true (h z ((hm z).1 (List.mem_of_getElem? hz)))
    · intro h x hx
      have := hlast x ((hm x).2 hx)
      simp; omega
set_option maxHeartbeats 2000000 in
theorem l00Put_o (xs : List Int) (n : Int) (hl : xs.length ≤ 1000) : PC Tryz.prog 98 [.d (.lst (xs.map (D.int .i64))), .d (.int .i64 n)] (.own 1 0 (ptI n xs).length) [.arr 1 ((ptI n xs).map (D.int .i64)) true] := by
  refine pc_intro ttOk (by kernel_rfl) Tryz.func98 rfl (by kernel_rfl) (by kernel_rfl) (by kernel_rfl) (fun hw => ?_)
  have hL : (xs.map (D.int .i64)).length = xs.length := List.length_map _
  generalize hR : ptI n xs = R
  (conv => whnf)
  refine LoopW.go (α := Nat × List Int × Bool) (fun p => [(0, .d (.lst (xs.map (D.int .i64)))), (1, .d (.int .i64 n)), (5, .own 1 0 p.2.1.length), (6, .d (.bool p.2.2)), (7, .d (.int .i64 (p.1 : Nat)))]) (fun p => [.gone, .arr 1 (p.2.1.map (D.int .i64)) true]) (fun p => p.1 ≤ xs.length ∧ (p.2.1.length ≤ p.1 + 1 ∧ (p.2.2 = false → p.2.1.length ≤ p.1)) ∧ R = p.2.1 ++ (if p.2.2 = true then xs.drop p.1 else ptI n (xs.drop p.1))) (fun p => xs.length - p.1) (0, [], false) covT_ ⟨by dsimp only; omega, by simp, by simp [hR]⟩ ?_
  rintro ⟨k, o, dn⟩ ⟨h1, ⟨h2, h2f⟩, h3⟩
  dsimp only at h1 h2 h2f h3 ⊢
  have hO : (o.map (D.int .i64)).length = o.length := List.length_map _
  have hO1 : ∀ y : Int, (o ++ [y]).length = o.length + 1 := fun y => by simp
  have hO2 : ∀ y z : Int, (o ++ [y] ++ [z]).length = o.length + 1 + 1 := fun y z => by simp
  have hT : (o.map (D.int .i64)).take o.length = o.map (D.int .i64) := List.take_of_length_le (by omega)
  cases dn with
  | true =>
    rw [if_pos rfl] at h3
    (conv => whnf)
    (refine br_ (fun h4 => ?_) (fun h4 => ?_) <;> (repeat (refine stg_ ?_)))
    · obtain ⟨x, hx⟩ := at_lt' (xs := xs) (k := k) (by omega)
      rw [drop_at hx] at h3
      (repeat' (first | (refine stg_ ?_) | fail | (refine br_ (fun hbr => ?_) (fun hbr => ?_))))
      all_goals first | (exfalso; omega) | skip
      refine NextW.go (k + 1, o ++ [x], true) (Weak.cov ⟨rfl, rfl, by (show _ = V.own 1 0 (o ++ [x]).length; rw [hO1]; rfl), rfl, rfl, trivial⟩ ⟨trivial, by (show _ = Blk.arr 1 ((o ++ [x]).map (D.int .i64)) true; rw [List.map_append]; show Blk.arr 1 ((o.map (D.int .i64)).take o.length ++ _) true = _; rw [hT]; rfl), trivial⟩ rfl) ⟨by dsimp only; omega, ⟨by rw [hO1]; dsimp only; omega, by intro q; cases q⟩, by rw [h3, if_pos rfl]; simp⟩ (by dsimp only; omega)
    · rw [List.drop_eq_nil_of_le (by omega), List.append_nil] at h3
      (repeat' (first | (refine stg_ ?_) | fail | (refine br_ (fun hbr => ?_) (fun hbr => ?_))))
      all_goals first | (exfalso; omega) | skip
      subst h3
      (refine ⟨⟨[some 1], ⟨by decide, rfl, trivial, trivial⟩, by decide, rfl, ?_⟩⟩; (conv => whnf); exact ⟨by decide, rfl⟩)
  | false =>
    have h2f := h2f rfl
    rw [if_neg (by simp)] at h3
    (conv => whnf)
    (refine br_ (fun h4 => ?_) (fun h4 => ?_) <;> (repeat (refine stg_ ?_)))
    · obtain ⟨x, hx⟩ := at_lt' (xs := xs) (k := k) (by omega)
      rw [drop_at hx, ptI] at h3
      by_cases c1 : n ≤ x
      · rw [if_pos c1] at h3
        by_cases c2 : n < x
        · rw [if_pos c2] at h3
          (repeat' (first | (refine stg_ ?_) | fail | (refine br_ (fun hbr => ?_) (fun hbr => ?_))))
          all_goals first | (exfalso; omega) | skip
          refine NextW.go (k + 1, o ++ [n] ++ [x], true) (Weak.cov ⟨rfl, rfl, by (show _ = V.own 1 0 (o ++ [n] ++ [x]).length; rw [hO2]; rfl), rfl, rfl, trivial⟩ ⟨trivial, by
            show Blk.arr 1 (((o.map (D.int .i64)).take o.length ++ [D.int .i64 n]).take (o.length + 1) ++ _) true = Blk.arr 1 ((o ++ [n] ++ [x]).map (D.int .i64)) true
            rw [hT, List.take_of_length_le (by simp), List.map_append, List.map_append]; rfl, trivial⟩ rfl) ⟨by dsimp only; omega, ⟨by rw [hO2]; dsimp only; omega, by intro q; cases q⟩, by rw [h3, if_pos rfl]; simp⟩ (by dsimp only; omega)
        · rw [if_neg c2] at h3
          (repeat' (first | (refine stg_ ?_) | fail | (refine br_ (fun hbr => ?_) (fun hbr => ?_))))
          all_goals first | (exfalso; omega) | skip
          refine NextW.go (k + 1, o ++ [x], true) (Weak.cov ⟨rfl, rfl, by (show _ = V.own 1 0 (o ++ [x]).length; rw [hO1]; rfl), rfl, rfl, trivial⟩ ⟨trivial, by (show _ = Blk.arr 1 ((o ++ [x]).map (D.int .i64)) true; rw [List.map_append]; show Blk.arr 1 ((o.map (D.int .i64)).take o.length ++ _) true = _; rw [hT]; rfl), trivial⟩ rfl) ⟨by dsimp only; omega, ⟨by rw [hO1]; dsimp only; omega, by intro q; cases q⟩, by rw [h3, if_pos rfl]; simp⟩ (by dsimp only; omega)
      · rw [if_neg c1] at h3
        (repeat' (first | (refine stg_ ?_) | fail | (refine br_ (fun hbr => ?_) (fun hbr => ?_))))
        all_goals first | (exfalso; omega) | skip
        refine NextW.go (k + 1, o ++ [x], false) (Weak.cov ⟨rfl, rfl, by (show _ = V.own 1 0 (o ++ [x]).length; rw [hO1]; rfl), rfl, rfl, trivial⟩ ⟨trivial, by (show _ = Blk.arr 1 ((o ++ [x]).map (D.int .i64)) true; rw [List.map_append]; show Blk.arr 1 ((o.map (D.int .i64)).take o.length ++ _) true = _; rw [hT]; rfl), trivial⟩ rfl) ⟨by dsimp only; omega, ⟨by rw [hO1]; dsimp only; omega, by intro _; rw [hO1]; dsimp only; omega⟩, by rw [h3, if_neg (by simp)]; simp⟩ (by dsimp only; omega)
    · rw [List.drop_eq_nil_of_le (by omega), ptI] at h3
      (repeat' (first | (refine stg_ ?_) | fail | (refine br_ (fun hbr => ?_) (fun hbr => ?_))))
      all_goals first | (exfalso; omega) | skip
      subst h3
      refine ⟨⟨[some 1], ⟨by decide, ?_, trivial, trivial⟩, by decide, rfl, ?_⟩⟩
      · show some (Blk.arr 1 ((o.map (D.int .i64)).take o.length ++ [D.int .i64 n]) true) = some (Blk.arr 1 ((o ++ [n]).map (D.int .i64)) true)
        rw [hT, List.map_append]; rfl
      · (conv => whnf)
        exact ⟨by decide, by rw [hO1]; rfl⟩
theorem l00Put_v (xs : List Int) (n : Int) (hl : xs.length ≤ 1000) : PC Tryz.prog 98 [.d (.lst (xs.map (D.int .i64))), .d (.int .i64 n)] (.d (.lst ((ptI n xs).map (D.int .i64)))) [] := (l00Put_o xs n hl).freeze (List.length_map _).symm
theorem l25All_v (o l : List Int) (hB : Bd o) (hl : ∀ g ∈ l, g ≤ 39) : PC Tryz.prog 46 [.d (.lst (o.map (D.int .i64))), .d (.lst (l.map (D.int .i64)))] (.d (.lst ((ptA o l).map (D.int .i64)))) [] := by
  refine pc_intro ttOk (by kernel_rfl) Tryz.func46 rfl (by kernel_rfl) (by kernel_rfl) (by kernel_rfl) (fun hw => ?_)
  have hL : (l.map (D.int .i64)).length = l.length := List.length_map _
  have hm : (l.map (D.int .i64)).length ≤ 9223372036854775807 := hw.2.1.1
  (conv => whnf)
  refine LoopW.go (α := Nat) (fun k => [(0, .d (.lst ((ptA o (l.take k)).map (D.int .i64)))), (1, .d (.lst (l.map (D.int .i64)))), (5, .d (.int .i64 k))]) (fun k => [.gone]) (fun k => k ≤ l.length) (fun k => l.length - k) 0 covT_ ?_ (fun k hk => ?_)
  · omega
  (conv => whnf)
  (refine br_ (fun h2 => ?_) (fun h2 => ?_) <;> (repeat (refine stg_ ?_)))
  · obtain ⟨x, hx⟩ := at_lt' (xs := l) (k := k) (by omega)
    have hB2 : Bd (ptA o (l.take k)) := hB.all (fun g hg => hl g (List.mem_of_mem_take hg))
    have hS := ptA_snoc (o := o) hx
    have c1 := l00Put_v (ptA o (l.take k)) x (by have := hB2.len; omega)
    by_cases hx0 : 0 ≤ x
    · rw [ptS, if_pos hx0] at hS
      (repeat' (first | (refine stg_ ?_) | (refine cla_ (c1) ?_) | (refine br_ (fun hbr => ?_) (fun hbr => ?_))))
      all_goals first | (exfalso; omega) | skip
      refine NextW.go (k + 1) (Weak.cov ⟨by rw [hS]; rfl, rfl, rfl, trivial⟩ ⟨trivial, trivial⟩ rfl) (by omega) (by omega)
    · rw [ptS, if_neg hx0] at hS
      (repeat' (first | (refine stg_ ?_) | (refine cla_ (c1) ?_) | (refine br_ (fun hbr => ?_) (fun hbr => ?_))))
      all_goals first | (exfalso; omega) | skip
      refine NextW.go (k + 1) (Weak.cov ⟨by rw [hS]; rfl, rfl, rfl, trivial⟩ ⟨trivial, trivial⟩ rfl) (by omega) (by omega)
  · (refine RetOK.d rfl rfl ?_; conv => whnf)
    rw [List.take_of_length_le (by omega)]
end Go.Proofs.YtcachhipflibkaaGreat