/- The abstract machine: functions that turn a row of their caller's and answer a front part of it; the kit's words for a row of numbers. Leans on no program. -/
import Derived.Test.YtdeafbgnbgihgaaVMTac
import Derived.Sort.Grow
set_option linter.unusedSimpArgs false
set_option linter.unusedVariables false
namespace Go.Proofs.Ytdeafbgnbgihgaa
open Go.RowKit

/-- f, at a row xs of its caller's own and the values rest, answers the first m elements of it; the row is ys then -/
structure PR (P : Program) (f : FuncId) (n : Nat) (xs : List D) (rest : List V) (m : Nat) (ys : List D) : Prop where
  fn : ∃ fn, P.funcs[f]? = some fn ∧ (fn.name == "runtime.NumGoroutine") = false ∧ fn.body.isNone = false
  len : ys.length = xs.length
  le : m ≤ xs.length
  run : ∀ (w : World) (g : Nat) (t : TypeId) (arr : Array Value) (cap : Nat) (F : List Nat) (args : List Value), w.heap[g]? = some (.cells arr t (0, 0)) → (g :: F).Nodup → (∀ x ∈ F, x < w.heap.size) →
    xs.length ≤ cap → cap ≤ maxLen → cap * n ≤ arr.size → ownDe w arr n xs 0 F → repT w [none] [.gone] rest args →
    Calls P f (.slice (some ⟨g, 0, none⟩) xs.length cap :: args).toArray w fun en w' => ∃ arr' F', en = .returned (.slice (some ⟨g, 0, none⟩) m cap) ∧ Kept w w' (g :: F) (g :: F') ∧
      w'.heap[g]? = some (.cells arr' t (0, 0)) ∧ arr'.size = arr.size ∧ ownDe w' arr' n ys 0 F'
  nil : xs = [] → ∀ (w : World) (a : Option Addr) (cap : Nat) (args : List Value), cap ≤ maxLen → (a = none → cap = 0) → repT w [none] [.gone] rest args →
    Calls P f (.slice a 0 cap :: args).toArray w fun en w' => en = .returned (.slice a 0 cap) ∧ Ext w w'
theorem PR.call {P : Program} {f : FuncId} {n n0 : Nat} {xs ys : List D} {rest : List V} {m : Nat} (pk : PR P f n xs rest m ys) (hn0 : xs ≠ [] → n0 = n) {b len : Nat} {e : Env} {h : List Blk} {K : V → Env → List Blk → Prop}
    (hb : h[b]? = some (.arr n0 xs true)) (hl : len = xs.length) (hb0 : Nat.ble 1 b = true) (hr : plains rest = true) (H : K (.own b 0 m) e (h.set b (.arr n0 ys true))) : CallM P f (.own b 0 len :: rest) e h K where
  fn := pk.fn
  run B X N M a w args R hargs := by
    obtain ⟨c0, args, rfl, h1, h2⟩ := hargs
    have h2' := plains_rep (w' := w) (M' := [none]) (h' := [.gone]) rest args hr h2
    have hb1 : 1 ≤ b := Nat.le_of_ble_eq_true hb0
    subst hl
    obtain ⟨ad, cap, rfl, k1, k2, k3, k4⟩ := rep_own.1 (rep_of_rep1 h1)
    by_cases hx : xs = []
    · have hy : ys = [] := List.eq_nil_of_length_eq_zero (by rw [pk.len, hx]; rfl)
      subst hx
      subst hy
      have hm : m = 0 := by have := pk.le; simpa using this
      subst hm
      refine (pk.nil rfl w ad cap args k2 k3 h2').mono ?_
      rintro en w' ⟨rfl, q2⟩
      rw [show h.set b (.arr n0 [] true) = h from set_self h b _ hb] at H
      have mv := q2.mv (M := M) (h := h) R.inv.hi
      exact ⟨.own b 0 0, _, e, h, M, rfl, H, R.step (R.ext.trans q2) (R.inv.ext q2) mv rfl rfl, rep_mv mv (.own b 0 0) _ trivial (rep_of_rep1 h1)⟩
    · obtain rfl := hn0 hx
      have hn : nOf h b = n0 := by simp [nOf, hb]
      have hc : cap ≠ 0 := fun q => hx (List.eq_nil_of_length_eq_zero (by omega))
      rcases k4 with k4 | ⟨g, F, arr, t, m1, m2, m3, m4⟩
      · exact absurd k4 hc
      · subst m2
        obtain ⟨arr0, t0, r1, r2, r3⟩ : ∃ arr t, w.heap[g]? = some (.cells arr t (0, 0)) ∧ xs.length * n0 ≤ arr.size ∧ (if true = true then ownDe w arr n0 xs 0 F else F = [] ∧ extDe M.O w arr n0 xs 0) := R.inv.blk b _ _ hb m1
        rw [m3] at r1
        cases r1
        rw [if_pos rfl] at r3
        have nd : (g :: F).Nodup := by
          have := mO_nodup R.inv m1
          exact this
        rw [hn, Nat.zero_mul]
        refine (pk.run w g t arr cap F args m3 nd (fun x hx => R.inv.hi x (mem_O m1 (by simp [mO, hx]))) k1 k2 (by rw [Nat.zero_add, hn] at m4; exact m4) r3 h2').mono ?_
        rintro en w' ⟨arr', F', rfl, q2, q3, q4, q5⟩
        have hxB : Ext B w' := by
          have hlo := R.inv.lo b _ _ hb m1 rfl
          refine Below.trans R.ext ⟨q2.os, q2.tape, q2.output, q2.size, fun k hk => q2.ch k (Nat.lt_of_lt_of_le hk R.base) (fun hm => ?_)⟩
          have := hlo k hm
          omega
        have hnf : nOf (h.set b (.arr n0 ys true)) b = n0 := by
          unfold nOf; rw [List.getElem?_set_self (List.getElem?_eq_some_iff.1 hb).1]
        obtain ⟨M', R', hM', _⟩ := R.reset (w' := w') hxB m1 (by omega) hb (.inl rfl) [] [] (by simp) (by simp) (by simp) (by simp) (m' := some (g, F')) q2.nd
          (fun x hx => (q2.sub x hx).imp id (fun q => .inr q)) q2.hi q2.size (fun x hx hxm => q2.ch x hx hxm) (k' := .arr n0 ys true) rfl
          (fun _ g1 F1 e1 => by
            cases e1
            refine ⟨⟨F', rfl⟩, by rw [hnf, hn], fun arr1 t1 hg1 => ?_⟩
            rw [m3] at hg1
            cases hg1
            exact ⟨arr', q3, q4⟩)
          (fun M' h' _ => ⟨arr', t, q3, by
            have : xs.length * n0 ≤ cap * n0 := Nat.mul_le_mul_right n0 k1
            rw [pk.len, q4]; rw [Nat.zero_add, hn] at m4; omega, by rw [if_pos rfl]; exact q5⟩)
        refine ⟨.own b 0 m, _, e, _, M', rfl, H, R', rep_own.2 ⟨_, cap, rfl, Nat.le_trans pk.le k1, k2, by simp, .inr ⟨g, F', arr', t, hM', ?_, q3, ?_⟩⟩⟩
        · rw [Nat.zero_mul]
        · rw [hnf, q4]; rw [hn] at m4; exact m4
theorem CallW.useP {P : Program} {f : FuncId} {n m : Nat} {xs ys : List D} {rest : List V} (pk : PR P f n xs rest m ys) {b len : Nat} {e : Env} {h : List Blk} {K : V → Env → List Blk → Prop}
    (hb : h[b]? = some (.arr n xs true)) (hl : len = xs.length) (hb0 : Nat.ble 1 b = true) (hr : plains rest = true) (H : K (.own b 0 m) e (h.set b (.arr n ys true))) : CallW P false f (.own b 0 len :: rest) e h K :=
  ⟨.inr ⟨rfl, pk.call (fun _ => rfl) hb hl hb0 hr H⟩⟩
/-- a call that turns a row and answers a front part of it -/
theorem clp_ {P : Program} {f : FuncId} {e : Env} {h : List Blk} {K : V → Env → List Blk → Prop} {Q : Prop} {n m b len : Nat} {xs ys : List D} {rest : List V} (pk : PR P f n xs rest m ys) (H : Q) (hb : h[b]? = some (.arr n xs true) := by rfl) (hl : len = xs.length := by (first | rfl | exact (List.length_map _).symm | (simp; done) | omega)) (hb0 : Nat.ble 1 b = true := by rfl)
    (hr : plains rest = true := by rfl) (hk : Q → K (.own b 0 m) e (h.set b (.arr n ys true)) := by (intro H; (conv => whnf); exact H)) : CallW P false f (.own b 0 len :: rest) e h K := CallW.useP pk hb hl hb0 hr (hk H)

/-! ### rows of numbers, in the kit's words -/
theorem own_ints {w : World} {arr : Array Value} : ∀ (zs : List Int) (i : Nat) (F : List Nat), ownDe w arr 1 (zs.map (D.int .i64)) i F → F = [] ∧ ∀ (j : Nat) (z : Int), zs[j]? = some z → arr[i + j]? = some (.int .i64 z) ∧ inR .i64 z
  | [], i, F, h => ⟨h, by simp⟩
  | z :: zs, i, F, h => by
    obtain ⟨F1, F2, ces, rfl, -, h1, ⟨rfl, rfl, hz⟩, h3⟩ := h
    obtain ⟨rfl, ih⟩ := own_ints zs (i + 1) F2 h3
    refine ⟨rfl, fun j y hj => ?_⟩
    cases j with
    | zero =>
      obtain rfl : z = y := by simpa using hj
      have := h1 0 _ rfl
      rw [Nat.mul_one, Nat.add_zero] at this
      exact ⟨this, hz⟩
    | succ j =>
      have := ih j y (by simpa using hj)
      rwa [show i + 1 + j = i + (j + 1) by omega] at this
theorem ints_own {w : World} {arr : Array Value} : ∀ (zs : List Int) (i : Nat), (∀ (j : Nat) (z : Int), zs[j]? = some z → arr[i + j]? = some (.int .i64 z) ∧ inR .i64 z) → ownDe w arr 1 (zs.map (D.int .i64)) i []
  | [], i, _ => rfl
  | z :: zs, i, h => by
    refine ⟨[], [], [.int .i64 z], rfl, rfl, fun j v hj => ?_, ⟨rfl, rfl, (h 0 z rfl).2⟩, ints_own zs (i + 1) fun j y hj => ?_⟩
    · cases j with
      | zero =>
        obtain rfl : Value.int .i64 z = v := by simpa using hj
        have := (h 0 z rfl).1
        rw [Nat.add_zero] at this ⊢; rwa [Nat.mul_one]
      | succ j => simp at hj
    · have := h (j + 1) y (by simpa using hj)
      rwa [show i + (j + 1) = i + 1 + j by omega] at this
theorem holds_ints {w : World} {g : Nat} {arr : Array Value} {t : TypeId} {zs : List Int} {F : List Nat} (hg : w.heap[g]? = some (.cells arr t (0, 0))) (h : ownDe w arr 1 (zs.map (D.int .i64)) 0 F) : Sort.Holds (Value.int .i64) w g 0 zs.toArray := by
  intro j hj
  have hj' : j < zs.length := by simpa using hj
  have := ((own_ints zs 0 F h).2 j zs[j] (List.getElem?_eq_getElem hj')).1
  rw [Nat.zero_add] at this ⊢
  refine ⟨?_, by simp [World.frozen?, hg]⟩
  rw [World.cell?, hg]
  simp [this, hj']
/-- the world after a sort, or after slices.Compact -/
theorem put_kept {w : World} {g : Nat} {arr : Array Value} {t : TypeId} {ys : List Int} (hg : w.heap[g]? = some (.cells arr t (0, 0))) (hl : ys.length ≤ arr.size) (hy : ∀ y ∈ ys, inR .i64 y) (n : Nat) (os : Array Obj) :
    ∃ arr' : Array Value, Kept w (Sort.grow (Sort.putRow (Value.int .i64) (Sort.ahead w n) g 0 ys.toArray) os) [g] [g] ∧ (Sort.grow (Sort.putRow (Value.int .i64) (Sort.ahead w n) g 0 ys.toArray) os).heap[g]? = some (.cells arr' t (0, 0)) ∧ arr'.size = arr.size ∧
      ownDe (Sort.grow (Sort.putRow (Value.int .i64) (Sort.ahead w n) g 0 ys.toArray) os) arr' 1 (ys.map (D.int .i64)) 0 [] := by
  have hlt := lt_of_heap hg
  have hsz : (Sort.putRow (Value.int .i64) (Sort.ahead w n) g 0 ys.toArray).heap.size = w.heap.size := by simp [Sort.putRow, Sort.mapBlock, Sort.ahead]
  have hget : ∀ x, x < w.heap.size → (Sort.grow (Sort.putRow (Value.int .i64) (Sort.ahead w n) g 0 ys.toArray) os).heap[x]? = (Sort.putRow (Value.int .i64) (Sort.ahead w n) g 0 ys.toArray).heap[x]? := fun x hx => by
    show (_ ++ os)[x]? = _
    rw [Array.getElem?_append_left (by rw [hsz]; exact hx)]
  have hme : (Sort.putRow (Value.int .i64) (Sort.ahead w n) g 0 ys.toArray).heap[g]? = some (.cells (Sort.putCells (Value.int .i64) 0 ys.toArray arr) t (0, 0)) := by
    simp [Sort.putRow, Sort.mapBlock, Sort.ahead, Array.getElem?_modify, hg, Sort.onCells]
  refine ⟨Sort.putCells (Value.int .i64) 0 ys.toArray arr, ⟨rfl, rfl, rfl, ?_, fun x hx hm => ?_, by simp, by simp, fun x hx => ?_⟩, by rw [hget g hlt, hme], by simp [Sort.putCells], ints_own ys 0 fun j z hz => ?_⟩
  · show _ ≤ (_ ++ os).size
    rw [Array.size_append, hsz]; omega
  · have hne : x ≠ g := by simpa using hm
    rw [hget x hx]
    simp [Sort.putRow, Sort.mapBlock, Sort.ahead, Array.getElem?_modify, Ne.symm hne]
  · have : x = g := by simpa using hx
    subst this
    show _ < (_ ++ os).size
    rw [Array.size_append, hsz]; omega
  · have hj : j < ys.length := (List.getElem?_eq_some_iff.1 hz).1
    refine ⟨?_, hy z (List.mem_of_getElem? hz)⟩
    have hja : j < arr.size := by omega
    rw [Nat.zero_add]
    have hz' : ys[j] = z := by rw [List.getElem?_eq_getElem hj] at hz; simpa using hz
    simp [Sort.putCells, Array.getElem?_mapIdx, Array.getElem?_eq_getElem hja, hj, hz']
end Go.Proofs.Ytdeafbgnbgihgaa
