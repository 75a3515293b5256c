/- merged: several parts in one text. Leans on no more than they do. -/
import Derived.Test.YtdeafbgnbgihgaaVMTac
import Derived.Test.YtdeafbgnbgihgaaTT
import Derived.Test.YtdeafbgnbgihgaaLVBase
import Derived.Shelf.Strings.BuilderK
import Derived.Sort.Grow
import Derived.Deep.RegionLaw
import Derived.Deep.LoopGhost
import Derived.Lib.SliceRun
import Derived.Shelf.RegionOpenPlain
import Derived.WalkKit
import Derived.Lib.Walk
import Derived.Test.YtdeafbgnbgihgaaLV
import Derived.Test.YtdeafbgnbgihgaaVMIn
import Derived.Lib.AppendZerosOnto
import Derived.Lib.JoinLaws
import Derived.Laws.IdiomCopy
import Derived.Shelf.Spec.SlicesInsertGrow
import Derived.Test.YtdeafbgnbgihgaaShelf
import Derived.Laws.Strings
set_option linter.unusedSimpArgs false
set_option linter.unusedVariables false
namespace Go.Proofs.Ytdeafbgnbgihgaa
open Go.RowKit
theorem cloneTable_v (xs : List TTable) (hb : xs.length ≤ 1000000) : PC Try.prog 24 [.d (.lst (xs.map TTable.D))] (.own 1 0 xs.length) [.arr 2 (xs.map TTable.D) true] := by
  refine pc_intro ttOk (by kernel_rfl) Try.func24 rfl (by kernel_rfl) (by kernel_rfl) (by kernel_rfl) (fun hw => ?_)
  have hL : (xs.map TTable.D).length = xs.length := List.length_map _
  (conv => whnf)
  (repeat' (first | (refine stg_ ?_) | (refine NlW.mk' (fun hnl => ?_) ?_) | (refine br_ (fun hbr => ?_) (fun hbr => ?_))))
  · obtain rfl : xs = [] := List.eq_nil_of_length_eq_zero (by omega)
    exact ⟨⟨[none], ⟨rfl, trivial⟩, by decide, rfl, by decide, rfl, rfl, rfl⟩⟩
  · refine ⟨⟨[some 1], ⟨by decide, rfl, trivial, trivial⟩, by decide, rfl, by decide, ?_⟩⟩
    show V.own 1 0 (0 + (xs.map TTable.D).length) = _
    rw [Nat.zero_add, hL]
open Go.RowKit Go.Shelf
section
variable {P : Program} {ρ : Ren}
theorem setCell_heap0 {w : World} {g : Nat} {cs : Array Value} {T : TypeId} (h : w.heap[g]? = some (.cells cs T (0, 0))) (j : Nat) (v : Value) : (w.setCell ⟨g, j, none⟩ v).heap[g]? = some (.cells (cs.setIfInBounds j v) T (0, 0)) := by
  rw [setCell_eq_setRow w g j cs T (0, 0) v h]
  exact setRow_heap w g cs _ T _ h
theorem setCell_other0 {w : World} {g k : Nat} (hk : k ≠ g) (j : Nat) (v : Value) : (w.setCell ⟨g, j, none⟩ v).heap[k]? = w.heap[k]? := by
  simp [World.setCell, Array.getElem?_modify, Ne.symm hk]
theorem setCell_size0 {w : World} {g : Nat} (j : Nat) (v : Value) : (w.setCell ⟨g, j, none⟩ v).heap.size = w.heap.size := by simp [World.setCell]
structure OnlyB (w w' : World) (b : Nat) : Prop where
  os : w'.os = w.os
  tape : w'.tape = w.tape
  output : w'.output = w.output
  size : w'.heap.size = w.heap.size
  ch : ∀ x, x ≠ b → w'.heap[x]? = w.heap[x]?
end
structure BC (P : Program) (f : FuncId) (T E : TypeId) (bs : List UInt8) (rest : List V) (v : V) (bs' : List UInt8) : Prop where
  fn : ∃ fn, P.funcs[f]? = some fn ∧ (fn.name == "runtime.NumGoroutine") = false ∧ fn.body.isNone = false
  run : ∀ (w : World) (g : Nat) (F : List Nat) (args : List Value), repT w [none] [.gone] rest args → bldR w g F T E bs → g ∉ F →
    Calls P f (.pointer (some ⟨g, 0, none⟩) :: args).toArray w fun en w' => ∃ cv F', en = .returned cv ∧ (∀ M h, rep w' M h v cv) ∧ bldR w' g F' T E bs' ∧ Kept w w' (g :: F) (g :: F')
theorem BC.call {P : Program} {f : FuncId} {T E : TypeId} {bs bs' : List UInt8} {rest : List V} {v : V} (bc : BC P f T E bs rest v bs') {b : Nat} {e : Env} {h : List Blk} {K : V → Env → List Blk → Prop}
    (hb : h[b]? = some (.bld T E bs)) (hb0 : Nat.ble 1 b = true) (hr : plains rest = true) (H : K v e (h.set b (.bld T E bs'))) : CallM P f (.pB b [] 0 :: rest) e h K where
  fn := bc.fn
  run B X N M a w args R hargs := by
    obtain ⟨c0, args, rfl, h1, h2⟩ := hargs
    have h2' := plains_rep (w' := w) (M' := [none]) (h' := [.gone]) rest args hr h2
    have hb1 : 1 ≤ b := Nat.le_of_ble_eq_true hb0
    obtain ⟨g, F, m1, rfl⟩ := rep_pB.1 (rep_of_rep1 h1)
    have hbr : bldR w g F T E bs := R.inv.blk b _ _ hb m1
    have nd : (g :: F).Nodup := mO_nodup R.inv m1
    refine (bc.run w g F args h2' hbr (List.nodup_cons.1 nd).1).mono ?_
    rintro en w' ⟨cv, F', rfl, q1, q5, q2⟩
    have hxB : Ext B w' := by
      have hlo := R.inv.lo b _ _ hb m1 rfl
      refine Below.trans R.ext ⟨q2.os, q2.tape, q2.output, q2.size, fun k hk => q2.ch k (Nat.lt_of_lt_of_le hk R.base) (fun hm => ?_)⟩
      have := hlo k hm
      omega
    have q5' := q5
    obtain ⟨p, vv, hbk, _, hrow⟩ := q5'
    have hbk0 := hbr
    obtain ⟨p0, vv0, hbk0, _, _⟩ := hbk0
    obtain ⟨M', R', _, _⟩ := R.reset (w' := w') hxB m1 (by omega) hb (.inl rfl) [] [] (by simp) (by simp) (by simp) (by simp) (m' := some (g, F')) q2.nd
      (fun x hx => (q2.sub x hx).imp id (fun q => .inr q)) q2.hi q2.size (fun x hx hxm => q2.ch x hx hxm) (k' := .bld T E bs') rfl
      (fun _ g1 F1 e1 => by
        cases e1
        refine ⟨⟨F', rfl⟩, ?_, fun arr1 t1 hg1 => ?_⟩
        · simp only [nOf, hb, List.getElem?_set_self (List.getElem?_eq_some_iff.1 hb).1]
        · rw [hbk0] at hg1
          cases hg1
          exact ⟨_, hbk, rfl⟩)
      (fun M' h' _ => q5)
    exact ⟨v, cv, e, _, M', rfl, H, R', q1 _ _⟩
section
variable {P : Program} {ρ : Ren}
end
structure PR (P : Program) (f : FuncId) (n : Nat) (xs : List D) (rest : List V) (m : Nat) (ys : List D) : Prop where
  fn : ∃ fn, P.funcs[f]? = some fn ∧ (fn.name == "runtime.NumGoroutine") = false ∧ fn.body.isNone = false
  len : ys.length = xs.length
  le : m ≤ xs.length
  run : ∀ (w : World) (g : Nat) (t : TypeId) (arr : Array Value) (cap : Nat) (F : List Nat) (args : List Value), w.heap[g]? = some (.cells arr t (0, 0)) → (g :: F).Nodup → (∀ x ∈ F, x < w.heap.size) →
    xs.length ≤ cap → cap ≤ maxLen → cap * n ≤ arr.size → ownDe w arr n xs 0 F → repT w [none] [.gone] rest args →
    Calls P f (.slice (some ⟨g, 0, none⟩) xs.length cap :: args).toArray w fun en w' => ∃ arr' F', en = .returned (.slice (some ⟨g, 0, none⟩) m cap) ∧ Kept w w' (g :: F) (g :: F') ∧
      w'.heap[g]? = some (.cells arr' t (0, 0)) ∧ arr'.size = arr.size ∧ ownDe w' arr' n ys 0 F'
  nil : xs = [] → ∀ (w : World) (a : Option Addr) (cap : Nat) (args : List Value), cap ≤ maxLen → (a = none → cap = 0) → repT w [none] [.gone] rest args →
    Calls P f (.slice a 0 cap :: args).toArray w fun en w' => en = .returned (.slice a 0 cap) ∧ Ext w w'
theorem PR.call {P : Program} {f : FuncId} {n n0 : Nat} {xs ys : List D} {rest : List V} {m : Nat} (pk : PR P f n xs rest m ys) (hn0 : xs ≠ [] → n0 = n) {b len : Nat} {e : Env} {h : List Blk} {K : V → Env → List Blk → Prop}
    (hb : h[b]? = some (.arr n0 xs true)) (hl : len = xs.length) (hb0 : Nat.ble 1 b = true) (hr : plains rest = true) (H : K (.own b 0 m) e (h.set b (.arr n0 ys true))) : CallM P f (.own b 0 len :: rest) e h K where
  fn := pk.fn
  run B X N M a w args R hargs := by
    obtain ⟨c0, args, rfl, h1, h2⟩ := hargs
    have h2' := plains_rep (w' := w) (M' := [none]) (h' := [.gone]) rest args hr h2
    have hb1 : 1 ≤ b := Nat.le_of_ble_eq_true hb0
    subst hl
    obtain ⟨ad, cap, rfl, k1, k2, k3, k4⟩ := rep_own.1 (rep_of_rep1 h1)
    by_cases hx : xs = []
    · have hy : ys = [] := List.eq_nil_of_length_eq_zero (by rw [pk.len, hx]; rfl)
      subst hx
      subst hy
      have hm : m = 0 := by have := pk.le; simpa using this
      subst hm
      refine (pk.nil rfl w ad cap args k2 k3 h2').mono ?_
      rintro en w' ⟨rfl, q2⟩
      rw [show h.set b (.arr n0 [] true) = h from set_self h b _ hb] at H
      have mv := q2.mv (M := M) (h := h) R.inv.hi
      exact ⟨.own b 0 0, _, e, h, M, rfl, H, R.step (R.ext.trans q2) (R.inv.ext q2) mv rfl rfl, rep_mv mv (.own b 0 0) _ trivial (rep_of_rep1 h1)⟩
    · obtain rfl := hn0 hx
      have hn : nOf h b = n0 := by simp [nOf, hb]
      have hc : cap ≠ 0 := fun q => hx (List.eq_nil_of_length_eq_zero (by omega))
      rcases k4 with k4 | ⟨g, F, arr, t, m1, m2, m3, m4⟩
      · exact absurd k4 hc
      · subst m2
        obtain ⟨arr0, t0, r1, r2, r3⟩ : ∃ arr t, w.heap[g]? = some (.cells arr t (0, 0)) ∧ xs.length * n0 ≤ arr.size ∧ (if true = true then ownDe w arr n0 xs 0 F else F = [] ∧ extDe M.O w arr n0 xs 0) := R.inv.blk b _ _ hb m1
        rw [m3] at r1
        cases r1
        rw [if_pos rfl] at r3
        have nd : (g :: F).Nodup := by
          have := mO_nodup R.inv m1
          exact this
        rw [hn, Nat.zero_mul]
        refine (pk.run w g t arr cap F args m3 nd (fun x hx => R.inv.hi x (mem_O m1 (by simp [mO, hx]))) k1 k2 (by rw [Nat.zero_add, hn] at m4; exact m4) r3 h2').mono ?_
        rintro en w' ⟨arr', F', rfl, q2, q3, q4, q5⟩
        have hxB : Ext B w' := by
          have hlo := R.inv.lo b _ _ hb m1 rfl
          refine Below.trans R.ext ⟨q2.os, q2.tape, q2.output, q2.size, fun k hk => q2.ch k (Nat.lt_of_lt_of_le hk R.base) (fun hm => ?_)⟩
          have := hlo k hm
          omega
        have hnf : nOf (h.set b (.arr n0 ys true)) b = n0 := by
          unfold nOf; rw [List.getElem?_set_self (List.getElem?_eq_some_iff.1 hb).1]
        obtain ⟨M', R', hM', _⟩ := R.reset (w' := w') hxB m1 (by omega) hb (.inl rfl) [] [] (by simp) (by simp) (by simp) (by simp) (m' := some (g, F')) q2.nd
          (fun x hx => (q2.sub x hx).imp id (fun q => .inr q)) q2.hi q2.size (fun x hx hxm => q2.ch x hx hxm) (k' := .arr n0 ys true) rfl
          (fun _ g1 F1 e1 => by
            cases e1
            refine ⟨⟨F', rfl⟩, by rw [hnf, hn], fun arr1 t1 hg1 => ?_⟩
            rw [m3] at hg1
            cases hg1
            exact ⟨arr', q3, q4⟩)
          (fun M' h' _ => ⟨arr', t, q3, by
            have : xs.length * n0 ≤ cap * n0 := Nat.mul_le_mul_right n0 k1
            rw [pk.len, q4]; rw [Nat.zero_add, hn] at m4; omega, by rw [if_pos rfl]; exact q5⟩)
        refine ⟨.own b 0 m, _, e, _, M', rfl, H, R', rep_own.2 ⟨_, cap, rfl, Nat.le_trans pk.le k1, k2, by simp, .inr ⟨g, F', arr', t, hM', ?_, q3, ?_⟩⟩⟩
        · rw [Nat.zero_mul]
        · rw [hnf, q4]; rw [hn] at m4; exact m4
open Go.RowKit Go.Shelf Go.Lib
theorem setCells_arr {t : TypeId} : ∀ (vs : List Value) (w : World) (g o : Nat) (arr : Array Value), w.heap[g]? = some (.cells arr t (0, 0)) → o + vs.length ≤ arr.size →
    ∃ arr' : Array Value, (w.setCells g o vs).heap[g]? = some (.cells arr' t (0, 0)) ∧ arr'.size = arr.size ∧ (∀ k, o ≤ k → k < o + vs.length → arr'[k]? = vs[k - o]?) ∧ (∀ k, k < o ∨ o + vs.length ≤ k → arr'[k]? = arr[k]?) ∧
      (∀ x, x ≠ g → (w.setCells g o vs).heap[x]? = w.heap[x]?) ∧ (w.setCells g o vs).heap.size = w.heap.size ∧ (w.setCells g o vs).os = w.os ∧ (w.setCells g o vs).tape = w.tape ∧ (w.setCells g o vs).output = w.output
  | [], w, g, o, arr, hg, hl => ⟨arr, hg, rfl, fun k h1 h2 => by simp at h2; omega, fun k _ => rfl, fun x _ => rfl, rfl, rfl, rfl, rfl⟩
  | v :: r, w, g, o, arr, hg, hl => by
    simp only [List.length_cons] at hl
    obtain ⟨arr', h1, h2, h3, h4, h5, h6, h7, h8, h9⟩ := setCells_arr r (w.setCell ⟨g, o, none⟩ v) g (o + 1) (arr.setIfInBounds o v) (setCell_heap0 hg o v) (by simp; omega)
    refine ⟨arr', h1, by rw [h2]; simp, fun k hk1 hk2 => ?_, fun k hk => ?_, fun x hx => ?_, ?_, h7, h8, h9⟩
    · simp only [List.length_cons] at hk2
      by_cases hk : k = o
      · subst hk
        rw [h4 k (.inl (by omega))]
        simp [show k < arr.size by omega]
      · rw [h3 k (by omega) (by omega), show k - o = (k - (o + 1)) + 1 by omega, List.getElem?_cons_succ]
    · simp only [List.length_cons] at hk
      rw [h4 k (by omega), Array.getElem?_setIfInBounds_ne (by omega)]
    · show ((w.setCell ⟨g, o, none⟩ v).setCells g (o + 1) r).heap[x]? = _
      rw [h5 x hx, setCell_other0 hx]
    · show ((w.setCell ⟨g, o, none⟩ v).setCells g (o + 1) r).heap.size = _
      rw [h6, setCell_size0]
def tbC : List TTable → List Value
  | [] => []
  | x :: t => .string x.fTag :: .string x.fData :: tbC t
theorem tbC_len : ∀ xs : List TTable, (tbC xs).length = 2 * xs.length
  | [] => rfl
  | x :: t => by simp only [tbC, List.length_cons, tbC_len t]; omega
theorem tbC_one : ∀ (xs : List TTable), ∀ v ∈ tbC xs, v.oneCell' = true
  | [], v, h => by simp [tbC] at h
  | x :: t, v, h => by
    simp only [tbC, List.mem_cons] at h
    rcases h with rfl | rfl | h
    · rfl
    · rfl
    · exact tbC_one t v h
theorem tab_cells {w : World} {arr : Array Value} : ∀ (xs : List TTable) (i : Nat) (F : List Nat), ownDe w arr 2 (xs.map TTable.D) i F → F = [] ∧ (∀ (k : Nat) (v : Value), (tbC xs)[k]? = some v → arr[i * 2 + k]? = some v) ∧ ∀ x ∈ xs, x.fTag.size ≤ maxLen ∧ x.fData.size ≤ maxLen
  | [], i, F, h => ⟨h, by simp [tbC], by simp⟩
  | x :: t, i, F, h => by
    obtain ⟨F1, F2, ces, rfl, h0, h1, h2, h3⟩ := h
    obtain ⟨rfl, ih, ih2⟩ := tab_cells t (i + 1) F2 h3
    have h2' : ownDs w [D.str x.fTag, D.str x.fData] F1 ces := h2
    obtain ⟨G1, G2, c1, c2, rfl, rfl, ⟨rfl, rfl, s1⟩, G3, G4, c3, c4, rfl, rfl, ⟨rfl, rfl, s2⟩, rfl, rfl⟩ := h2'
    refine ⟨rfl, fun k v hk => ?_, fun y hy => ?_⟩
    · rcases k with _ | _ | k
      · obtain rfl : Value.string x.fTag = v := by simpa [tbC] using hk
        exact h1 0 _ rfl
      · obtain rfl : Value.string x.fData = v := by simpa [tbC] using hk
        exact h1 1 _ rfl
      · have := ih k v (by simpa [tbC] using hk)
        rwa [show (i + 1) * 2 + k = i * 2 + (k + 1 + 1) by omega] at this
    · rcases List.mem_cons.1 hy with rfl | hy
      · exact ⟨s1, s2⟩
      · exact ih2 y hy
theorem cells_tab {w : World} {arr : Array Value} : ∀ (xs : List TTable) (i : Nat), (∀ (k : Nat) (v : Value), (tbC xs)[k]? = some v → arr[i * 2 + k]? = some v) → (∀ x ∈ xs, x.fTag.size ≤ maxLen ∧ x.fData.size ≤ maxLen) → ownDe w arr 2 (xs.map TTable.D) i []
  | [], i, _, _ => rfl
  | x :: t, i, h, hs => by
    obtain ⟨s1, s2⟩ := hs x (by simp)
    refine ⟨[], [], [.string x.fTag, .string x.fData], rfl, rfl, fun j v hj => ?_, ?_, cells_tab t (i + 1) (fun k v hk => ?_) (fun y hy => hs y (by simp [hy]))⟩
    · rcases j with _ | _ | j
      · exact h 0 v (by simpa [tbC] using hj)
      · exact h 1 v (by simpa [tbC] using hj)
      · simp at hj
    · show ownDs w [D.str x.fTag, D.str x.fData] [] _
      exact ⟨[], [], [_], [_], rfl, rfl, ⟨rfl, rfl, s1⟩, [], [], [_], [], rfl, rfl, ⟨rfl, rfl, s2⟩, rfl, rfl⟩
    · have := h (k + 1 + 1) v (by simpa [tbC] using hk)
      rwa [show i * 2 + (k + 1 + 1) = (i + 1) * 2 + k by omega] at this
theorem tbC_app : ∀ (xs ys : List TTable), tbC (xs ++ ys) = tbC xs ++ tbC ys
  | [], ys => rfl
  | x :: t, ys => by simp [tbC, tbC_app t ys]
theorem tbC_take : ∀ (i : Nat) (xs : List TTable), tbC (xs.take i) = (tbC xs).take (i * 2)
  | 0, xs => by simp [tbC]
  | i + 1, [] => by simp [tbC]
  | i + 1, x :: t => by rw [List.take_succ_cons, tbC, tbC_take i t, show (i + 1) * 2 = i * 2 + 1 + 1 by omega, tbC, List.take_succ_cons, List.take_succ_cons]
def letB (c : UInt8) : Bool := smB c || (decide ((65 : Int) ≤ c.toNat) && decide ((c.toNat : Int) ≤ 90))
def tcB (c : UInt8) : Bool := letB c || dgB c || decide ((c.toNat : Int) = 32)
def tgL : List UInt8 → Bool
  | [] => true
  | c :: t => letB c && t.all tcB
def tagB (s : ByteArray) : Bool := decide (s.size = 4) && tgL s.data.toList
theorem isLetter_v (c : UInt8) : PC Try.prog 47 [.d (.int .u8 c.toNat)] (.d (.bool (letB c))) [] := by
  refine pc_intro ttOk (by kernel_rfl) Try.func47 rfl (by kernel_rfl) (by kernel_rfl) (by kernel_rfl) (fun hw => ?_)
  (conv => whnf)
  (repeat' (first | (refine stg_ ?_) | (refine cl_ (isSmall_v _) ?_) | (refine br_ (fun hbr => ?_) (fun hbr => ?_))))
  all_goals ((refine RetOK.d rfl rfl ?_; conv => whnf); simp_all [letB]; try omega)
theorem tgL_one {s : ByteArray} (h : 0 < s.size) : tgL s.data.toList = (letB (s[0]'h) && (s.data.toList.drop 1).all tcB) := by
  conv => lhs; rw [← List.drop_zero (l := s.data.toList), dropN h]
  rfl
theorem letB_tc {c : UInt8} (h : letB c = true) : tcB c = true := by simp [tcB, h]
set_option maxHeartbeats 1000000 in
theorem ValidTag_v (s : ByteArray) : PC Try.prog 28 [.d (.str s)] (.d (.bool (tagB s))) [] := by
  refine pc_intro ttOk (by kernel_rfl) Try.func28 rfl (by kernel_rfl) (by kernel_rfl) (by kernel_rfl) (fun hw => ?_)
  by_cases h0 : s.size = 4
  · have HN := tgL_one (s := s) (by omega)
    have hc := bget? (s := s) (k := 0) (by omega)
    have hT : tagB s = tgL s.data.toList := by rw [tagB, decide_eq_true h0, Bool.true_and]
    (conv => whnf)
    (repeat' (first | (refine stg_ ?_) | (refine cl_ (isLetter_v _) ?_) | (refine br_ (fun hbr => ?_) (fun hbr => ?_))))
    · (refine RetOK.d rfl rfl ?_; conv => whnf)
      simp_all
    · (refine RetOK.d rfl rfl ?_; conv => whnf)
      simp_all
    · refine LoopW.go (α := Nat) (fun k => [(0, .d (.str s)), (3, .d (.int .i64 k))]) (fun _ => [.gone]) (fun k => 1 ≤ k ∧ k ≤ 4 ∧ tgL s.data.toList = (s.data.toList.drop k).all tcB) (fun k => 4 - k) 1 covT_ ⟨by omega, by omega, by simp_all⟩ (fun k hk => ?_)
      obtain ⟨hk1, hk2, hk3⟩ := hk
      clear hc
      (conv => whnf)
      (refine br_ (fun h4 => ?_) (fun h4 => ?_) <;> (repeat (refine stg_ ?_)))
      · have hc := bget? (s := s) (k := k) (by omega)
        rw [dropN (k := k) (by omega), List.all_cons] at hk3
        (repeat' (first | (refine stg_ ?_) | (refine cl_ (isLetter_v _) ?_) | (refine cl_ (isDigit_v _) ?_) | (refine br_ (fun hbr => ?_) (fun hbr => ?_))))
        all_goals first | (exfalso; omega) | ((refine RetOK.d rfl rfl ?_; conv => whnf); simp_all [tcB]; try omega) | skip
        all_goals exact NextW.go (k + 1) covT_ ⟨by omega, by omega, by simp_all [tcB]⟩ (by omega)
      · (refine RetOK.d rfl rfl ?_; conv => whnf)
        rw [hT, hk3, List.drop_eq_nil_of_le (by show s.size ≤ k; omega)]; rfl
  · have hT : tagB s = false := by rw [tagB, decide_eq_false h0, Bool.false_and]
    (conv => whnf)
    (repeat' (first | (refine stg_ ?_) | fail | (refine br_ (fun hbr => ?_) (fun hbr => ?_))))
    · (refine RetOK.d rfl rfl ?_; conv => whnf)
      rw [hT]
    all_goals (exfalso; omega)
def tgA : List UInt8 → Nat → Bool
  | [], _ => true
  | c :: t, 0 => letB c && tgA t 1
  | c :: t, k + 1 => tcB c && tgA t (k + 2)
theorem tgA_all : ∀ (t : List UInt8) (k : Nat), tgA t (k + 1) = t.all tcB
  | [], _ => rfl
  | c :: t, k => by rw [tgA, List.all_cons, tgA_all t (k + 1)]
theorem tgA_L (t : List UInt8) : tgA t 0 = tgL t := by
  cases t with
  | nil => rfl
  | cons c t => rw [tgA, tgL, tgA_all]
set_option maxHeartbeats 2000000 in
theorem l31Tag_v (s : ByteArray) : PC Try.prog 27 [.d (.str s)] (.d (.bool (tagB s))) [] := by
  refine pc_intro ttOk (by kernel_rfl) Try.func27 rfl (by kernel_rfl) (by kernel_rfl) (by kernel_rfl) (fun hw => ?_)
  have hs : s.size ≤ 9223372036854775807 := hw.1
  have hT : tagB s = (decide (s.size = 4) && tgA s.data.toList 0) := by rw [tgA_L]; rfl
  (conv => whnf)
  refine LoopW.go (α := Nat) (fun k => [(0, .d (.str s)), (3, .d (.int .i64 k))]) (fun _ => [.gone]) (fun k => k ≤ s.size ∧ tgA s.data.toList 0 = tgA (s.data.toList.drop k) k) (fun k => s.size - k) 0 covT_ ⟨by omega, rfl⟩ (fun k hk => ?_)
  obtain ⟨hk2, hk3⟩ := hk
  (conv => whnf)
  (refine br_ (fun h4 => ?_) (fun h4 => ?_) <;> (repeat (refine stg_ ?_)))
  · have hc := bget? (s := s) (k := k) (by omega)
    rw [dropN (k := k) (by omega)] at hk3
    cases hl : letB (s[k]'(by omega)) with
    | true =>
      have hk4 : tgA s.data.toList 0 = tgA (s.data.toList.drop (k + 1)) (k + 1) := by
        cases k with
        | zero => rw [hk3, tgA, hl]; rfl
        | succ k => rw [hk3, tgA, letB_tc hl]; rfl
      (repeat' (first | (refine stg_ ?_) | (refine cl_ (l01Digit_v _) ?_) | (refine br_ (fun hbr => ?_) (fun hbr => ?_))))
      all_goals first | exact NextW.go (k + 1) covT_ ⟨by omega, hk4⟩ (by omega) | (exfalso; simp_all [letB, smB]; done) | (exfalso; simp_all [letB, smB]; omega)
    | false =>
      cases k with
      | zero =>
        rw [tgA, hl, Bool.false_and] at hk3
        (repeat' (first | (refine stg_ ?_) | (refine cl_ (l01Digit_v _) ?_) | (refine br_ (fun hbr => ?_) (fun hbr => ?_))))
        all_goals first | ((refine RetOK.d rfl rfl ?_; conv => whnf); simp_all; done) | (exfalso; simp_all [letB, smB]; done) | (exfalso; simp_all [letB, smB]; omega)
      | succ k =>
        rw [tgA] at hk3
        (repeat' (first | (refine stg_ ?_) | (refine cl_ (l01Digit_v _) ?_) | (refine br_ (fun hbr => ?_) (fun hbr => ?_))))
        all_goals first | (exfalso; omega) | ((refine RetOK.d rfl rfl ?_; conv => whnf); simp_all [tcB]; done) | ((refine RetOK.d rfl rfl ?_; conv => whnf); simp_all [tcB]; omega) | (exfalso; simp_all [letB, smB]; done) | (exfalso; simp_all [letB, smB]; omega) | exact NextW.go (k + 1 + 1) covT_ ⟨by omega, by simp_all [tcB]⟩ (by omega)
  · (refine RetOK.d rfl rfl ?_; conv => whnf)
    rw [hT, hk3, List.drop_eq_nil_of_le (by show s.size ≤ k; omega), show tgA [] k = true by cases k <;> rfl, Bool.and_true]
    congr 1
    rw [Bool.eq_iff_iff]; simp; omega
def ltT : Option TTable → TTable → Bool
  | none, _ => true
  | some p, x => Op.bytesLess p.fTag.toList x.fTag.toList
def tbGo : Option TTable → List TTable → Bool
  | _, [] => true
  | o, x :: t => tagB x.fTag && (ltT o x && tbGo (some x) t)
theorem tbGo_at {xs : List TTable} {k : Nat} {x : TTable} (hx : xs[k]? = some x) : tbGo (pv xs k) (xs.drop k) = (tagB x.fTag && (ltT (pv xs k) x && tbGo (pv xs (k + 1)) (xs.drop (k + 1)))) := by
  rw [drop_at hx, tbGo, pv_succ, hx]
theorem tbGo_end {xs : List TTable} {k : Nat} {o : Option TTable} (hk : xs.length ≤ k) : tbGo o (xs.drop k) = true := by
  rw [List.drop_eq_nil_of_le hk]; cases o <;> rfl
def ordT (xs : List TTable) : Bool := decide (xs.length ≤ 16) && tbGo none xs
def pd (x : TTable) : Nat := (x.fData.size + 3) / 4 * 4
def sumT (xs : List TTable) : Nat := (xs.map pd).sum
def szT (xs : List TTable) : Nat := 12 + 16 * xs.length + sumT xs
theorem sumT_at {xs : List TTable} {k : Nat} {x : TTable} (hx : xs[k]? = some x) : sumT (xs.take (k + 1)) = sumT (xs.take k) + pd x := by
  rw [sumT, take_snoc_get hx, List.map_append, List.sum_append]; simp [sumT]
theorem sumT_le : ∀ (xs : List TTable) (k : Nat), sumT (xs.take k) ≤ sumT xs
  | [], k => by simp [sumT]
  | x :: t, 0 => by simp [sumT]
  | x :: t, k + 1 => by
    have := sumT_le t k
    simp only [sumT, List.take_succ_cons, List.map_cons, List.sum_cons] at this ⊢
    omega
theorem sumT_z : ∀ xs : List TTable, sumT xs ≤ 4 * zL zTable xs
  | [] => by simp [sumT, zL]
  | x :: t => by
    have := sumT_z t
    simp only [sumT, zL, List.map_cons, List.sum_cons, List.length_cons, pd, zTable] at this ⊢
    omega
theorem zT_at {xs : List TTable} {k : Nat} {x : TTable} (hx : xs[k]? = some x) : x.fTag.size + x.fData.size ≤ zL zTable xs := by
  have := sum_get zTable hx
  simp only [zL, zTable] at this ⊢
  omega
def vtB (xs : List TTable) : Bool := ordT xs && decide (szT xs ≤ 65536)
theorem pad_and {n : Int} (h0 : 0 ≤ n) (h1 : n ≤ 9223372036854775807) : (((BitVec.ofInt IntKind.i64.bits (0 - n) &&& BitVec.ofInt IntKind.i64.bits 3).toNat : Nat) : Int) = (0 - n) % 4 := by
  have e : BitVec.ofInt 64 3 = 3#64 := rfl
  show (((BitVec.ofInt 64 (0 - n) &&& BitVec.ofInt 64 3).toNat : Nat) : Int) = _
  rw [e, BitVec.toNat_and, BitVec.toNat_ofInt, show (3#64).toNat = 2 ^ 2 - 1 from rfl, Nat.and_two_pow_sub_one_eq_mod]
  omega
theorem l31Pad_v (n : Int) (h0 : 0 ≤ n) : PC Try.prog 52 [.d (.int .i64 n)] (.d (.int .i64 ((0 - n) % 4))) [] := by
  refine pc_intro ttOk (by kernel_rfl) Try.func52 rfl (by kernel_rfl) (by kernel_rfl) (by kernel_rfl) (fun hw => ?_)
  have hn : -9223372036854775808 ≤ n ∧ n ≤ 9223372036854775807 := hw.1
  (conv => whnf)
  (refine stg_ ?_)
  refine ArW.i64e ((0 - n) % 4) (pad_and h0 hn.2) (by omega) ?_
  (conv => whnf)
  (refine RetOK.d rfl rfl ?_; conv => whnf)
theorem paddedSize_v (n : Int) (h0 : 0 ≤ n) (h1 : n ≤ 9223372036854775000) : PC Try.prog 41 [.d (.int .i64 n)] (.d (.int .i64 ((n + 3) / 4 * 4))) [] := by
  refine pc_intro ttOk (by kernel_rfl) Try.func41 rfl (by kernel_rfl) (by kernel_rfl) (by kernel_rfl) (fun hw => ?_)
  have e : (n + 3).tdiv 4 = (n + 3) / 4 := Int.tdiv_eq_ediv_of_nonneg (by omega)
  (conv => whnf)
  (refine stg_ ?_)
  (refine stg_ ?_)
  rw [e]
  (repeat (refine stg_ ?_))
  (refine RetOK.d rfl rfl ?_; conv => whnf)
theorem fileSize_w (xs : List TTable) (hz : zL zTable xs ≤ 4194304) : PC Try.prog 37 [.d (.lst (xs.map TTable.D))] (.d (.int .i64 (szT xs : Nat))) [] := by
  refine pc_intro ttOk (by kernel_rfl) Try.func37 rfl (by kernel_rfl) (by kernel_rfl) (by kernel_rfl) (fun hw => ?_)
  have hL : (xs.map TTable.D).length = xs.length := List.length_map _
  have hS := sumT_z xs
  have hl : xs.length ≤ zL zTable xs := by simp only [zL]; omega
  (conv => whnf)
  (repeat (refine stg_ ?_))
  refine LoopW.go (α := Nat) (fun k => [(3, .d (.int .i64 ((12 + 16 * xs.length + sumT (xs.take k) : Nat)))), (10, .d (.lst (xs.map TTable.D))), (11, .d (.int .i64 (xs.map TTable.D).length)), (12, .d (.int .i64 k))]) (fun _ => [.gone]) (fun k => k ≤ xs.length) (fun k => xs.length - k) 0 (Weak.cov ⟨by rw [← hL]; exact congrArg (fun z => V.d (.int .i64 z)) (by simp [sumT] <;> omega), rfl, rfl, rfl, trivial⟩ ⟨trivial, trivial⟩ rfl) (by omega) (fun k hk => ?_)
  have h3 := sumT_le xs k
  (conv => whnf)
  (refine br_ (fun h2 => ?_) (fun h2 => ?_) <;> (repeat (refine stg_ ?_)))
  · obtain ⟨x, hx⟩ := at_lt' (xs := xs) (k := k) (by omega)
    have h4 := sumT_at hx
    have h5 := zT_at hx
    have h6 := sumT_le xs (k + 1)
    (repeat (refine stg_ ?_))
    (refine cl_ (paddedSize_v (x.fData.size : Int) (by omega) (by omega)) ?_)
    refine ArW.i64e ((12 + 16 * xs.length + sumT (xs.take (k + 1)) : Nat) : Int) (by rw [h4, pd]; omega) (by omega) ?_
    (conv => whnf)
    (repeat (refine stg_ ?_))
    exact NextW.go (k + 1) covT_ (by omega) (by omega)
  · (refine RetOK.d rfl rfl ?_; conv => whnf)
    rw [szT, List.take_of_length_le (by omega)]
theorem l31Size_w (xs : List TTable) (hz : zL zTable xs ≤ 4194304) : PC Try.prog 34 [.d (.lst (xs.map TTable.D))] (.d (.int .i64 (szT xs : Nat))) [] := by
  refine pc_intro ttOk (by kernel_rfl) Try.func34 rfl (by kernel_rfl) (by kernel_rfl) (by kernel_rfl) (fun hw => ?_)
  have hL : (xs.map TTable.D).length = xs.length := List.length_map _
  have hS := sumT_z xs
  have hl : xs.length ≤ zL zTable xs := by simp only [zL]; omega
  (conv => whnf)
  (repeat (refine stg_ ?_))
  refine LoopW.go (α := Nat) (fun k => [(0, .d (.lst (xs.map TTable.D))), (3, .d (.int .i64 ((12 + 16 * xs.length + sumT (xs.take k) : Nat)))), (4, .d (.int .i64 k))]) (fun _ => [.gone]) (fun k => k ≤ xs.length) (fun k => xs.length - k) 0 (Weak.cov ⟨rfl, by rw [← hL]; exact congrArg (fun z => V.d (.int .i64 z)) (by simp [sumT] <;> omega), rfl, trivial⟩ ⟨trivial, trivial⟩ rfl) (by omega) (fun k hk => ?_)
  have h3 := sumT_le xs k
  (conv => whnf)
  (refine br_ (fun h2 => ?_) (fun h2 => ?_) <;> (repeat (refine stg_ ?_)))
  · obtain ⟨x, hx⟩ := at_lt' (xs := xs) (k := k) (by omega)
    have h4 := sumT_at hx
    have h5 := zT_at hx
    have h6 := sumT_le xs (k + 1)
    (repeat (refine stg_ ?_))
    (refine cl_ (l31Pad_v (x.fData.size : Int) (by omega)) ?_)
    (refine stg_ ?_)
    refine ArW.i64e ((12 + 16 * xs.length + sumT (xs.take (k + 1)) : Nat) : Int) (by rw [h4, pd]; omega) (by omega) ?_
    (conv => whnf)
    (repeat (refine stg_ ?_))
    exact NextW.go (k + 1) covT_ (by omega) (by omega)
  · (refine RetOK.d rfl rfl ?_; conv => whnf)
    rw [szT, List.take_of_length_le (by omega)]
theorem tagsInOrder_v (xs : List TTable) : PC Try.prog 36 [.d (.lst (xs.map TTable.D))] (.d (.bool (ordT xs))) [] := by
  refine pc_intro ttOk (by kernel_rfl) Try.func36 rfl (by kernel_rfl) (by kernel_rfl) (by kernel_rfl) (fun hw => ?_)
  have hL : (xs.map TTable.D).length = xs.length := List.length_map _
  have hm : (xs.map TTable.D).length ≤ 9223372036854775807 := hw.1.1
  (conv => whnf)
  (refine br_ (fun h1 => ?_) (fun h1 => ?_) <;> (repeat (refine stg_ ?_)))
  · (refine RetOK.d rfl rfl ?_; conv => whnf)
    rw [ordT, decide_eq_false (by omega)]; rfl
  · refine LoopW.go (α := Nat) (fun k => [(0, .d (.lst (xs.map TTable.D))), (8, .d (.lst (xs.map TTable.D))), (9, .d (.int .i64 (xs.map TTable.D).length)), (10, .d (.int .i64 k))]) (fun k => [.gone]) (fun k => k ≤ xs.length ∧ ordT xs = tbGo (pv xs k) (xs.drop k)) (fun k => xs.length - k) 0 covT_ ?_ (fun k hk => ?_)
    · exact ⟨by omega, by rw [ordT, decide_eq_true (by omega)]; rfl⟩
    obtain ⟨hk1, hk2⟩ := hk
    (conv => whnf)
    (refine br_ (fun h2 => ?_) (fun h2 => ?_) <;> (repeat (refine stg_ ?_)))
    · obtain ⟨x, hx⟩ := at_lt' (xs := xs) (k := k) (by omega)
      rw [tbGo_at hx] at hk2
      rcases Nat.eq_zero_or_pos k with rfl | h0
      · rw [pv_zero, ltT, Bool.true_and] at hk2
        (repeat' (first | (refine stg_ ?_) | (refine cla_ (ValidTag_v x.fTag) ?_) | (refine br_ (fun hbr => ?_) (fun hbr => ?_))))
        all_goals first | (exfalso; omega) | ((refine RetOK.d rfl rfl ?_; conv => whnf); simp_all; done) | skip
        all_goals exact NextW.go (0 + 1) covT_ ⟨by omega, by simp_all⟩ (by omega)
      · obtain ⟨p, hp⟩ := at_lt' (xs := xs) (k := k - 1) (by omega)
        have hp' : (xs.map TTable.D)[((k : Int) - 1).toNat]? = some p.D := by
          have : ((k : Int) - 1).toNat = k - 1 := by omega
          rw [this, List.getElem?_map, hp]; rfl
        rw [pv_pos _ h0, hp, ltT] at hk2
        (repeat' (first | (refine stg_ ?_) | (refine cla_ (ValidTag_v x.fTag) ?_) | (refine IxW.at (by omega) hp' ?_; (conv => whnf)) | (refine br_ (fun hbr => ?_) (fun hbr => ?_))))
        all_goals first | (exfalso; omega) | ((refine RetOK.d rfl rfl ?_; conv => whnf); simp_all; done) | skip
        all_goals exact NextW.go (k + 1) covT_ ⟨by omega, by simp_all⟩ (by omega)
    · (refine RetOK.d rfl rfl ?_; conv => whnf)
      rw [hk2, tbGo_end (by omega)]
theorem l31Ok_v (xs : List TTable) : PC Try.prog 33 [.d (.lst (xs.map TTable.D))] (.d (.bool (ordT xs))) [] := by
  refine pc_intro ttOk (by kernel_rfl) Try.func33 rfl (by kernel_rfl) (by kernel_rfl) (by kernel_rfl) (fun hw => ?_)
  have hL : (xs.map TTable.D).length = xs.length := List.length_map _
  have hm : (xs.map TTable.D).length ≤ 9223372036854775807 := hw.1.1
  (conv => whnf)
  refine LoopW.go (α := Nat) (fun k => [(0, .d (.lst (xs.map TTable.D))), (3, .d (.int .i64 k))]) (fun k => [.gone]) (fun k => k ≤ xs.length ∧ tbGo none xs = tbGo (pv xs k) (xs.drop k)) (fun k => xs.length - k) 0 covT_ ?_ (fun k hk => ?_)
  · exact ⟨by omega, rfl⟩
  obtain ⟨hk1, hk2⟩ := hk
  (conv => whnf)
  (refine br_ (fun h2 => ?_) (fun h2 => ?_) <;> (repeat (refine stg_ ?_)))
  · obtain ⟨x, hx⟩ := at_lt' (xs := xs) (k := k) (by omega)
    rw [tbGo_at hx] at hk2
    rcases Nat.eq_zero_or_pos k with rfl | h0
    · rw [pv_zero, ltT, Bool.true_and] at hk2
      (repeat' (first | (refine stg_ ?_) | (refine cla_ (l31Tag_v x.fTag) ?_) | (refine br_ (fun hbr => ?_) (fun hbr => ?_))))
      all_goals first | (exfalso; omega) | ((refine RetOK.d rfl rfl ?_; conv => whnf); simp_all [ordT]; done) | skip
      all_goals exact NextW.go (0 + 1) covT_ ⟨by omega, by simp_all⟩ (by omega)
    · obtain ⟨p, hp⟩ := at_lt' (xs := xs) (k := k - 1) (by omega)
      have hp' : (xs.map TTable.D)[((k : Int) - 1).toNat]? = some p.D := by
        have : ((k : Int) - 1).toNat = k - 1 := by omega
        rw [this, List.getElem?_map, hp]; rfl
      rw [pv_pos _ h0, hp, ltT] at hk2
      (repeat' (first | (refine stg_ ?_) | (refine cla_ (l31Tag_v x.fTag) ?_) | (refine IxW.at (by omega) hp' ?_; (conv => whnf)) | (refine br_ (fun hbr => ?_) (fun hbr => ?_))))
      all_goals first | (exfalso; omega) | ((refine RetOK.d rfl rfl ?_; conv => whnf); simp_all [ordT]; done) | skip
      all_goals exact NextW.go (k + 1) covT_ ⟨by omega, by simp_all⟩ (by omega)
  · (refine RetOK.d rfl rfl ?_; conv => whnf)
    rw [ordT, hk2, tbGo_end (by omega), Bool.and_true]
    congr 1
    rw [Bool.eq_iff_iff]; simp; try omega
theorem ValidTables_w (xs : List TTable) (hz : zL zTable xs ≤ 4194304) : PC Try.prog 21 [.d (.lst (xs.map TTable.D))] (.d (.bool (vtB xs))) [] := by
  refine pc_intro ttOk (by kernel_rfl) Try.func21 rfl (by kernel_rfl) (by kernel_rfl) (by kernel_rfl) (fun hw => ?_)
  (conv => whnf)
  (repeat' (first | (refine stg_ ?_) | (refine cla_ (tagsInOrder_v xs) ?_) | (refine cla_ (fileSize_w xs hz) ?_) | (refine br_ (fun hbr => ?_) (fun hbr => ?_))))
  all_goals ((refine RetOK.d rfl rfl ?_; conv => whnf); simp_all [vtB]; try omega)
theorem ValidTables_v (xs : List TTable) (hz : zL zTable xs ≤ 1048576) : PC Try.prog 21 [.d (.lst (xs.map TTable.D))] (.d (.bool (vtB xs))) [] := ValidTables_w xs (by omega)
theorem specValidTables_w (xs : List TTable) (hz : zL zTable xs ≤ 4194304) : PC Try.prog 19 [.d (.lst (xs.map TTable.D))] (.d (.bool (vtB xs))) [] := by
  refine pc_intro ttOk (by kernel_rfl) Try.func19 rfl (by kernel_rfl) (by kernel_rfl) (by kernel_rfl) (fun hw => ?_)
  (conv => whnf)
  (repeat' (first | (refine stg_ ?_) | (refine cla_ (l31Ok_v xs) ?_) | (refine cla_ (l31Size_w xs hz) ?_) | (refine br_ (fun hbr => ?_) (fun hbr => ?_))))
  all_goals ((refine RetOK.d rfl rfl ?_; conv => whnf); simp_all [vtB]; try omega)
theorem specValidTables_v (xs : List TTable) (hz : zL zTable xs ≤ 1048576) : PC Try.prog 19 [.d (.lst (xs.map TTable.D))] (.d (.bool (vtB xs))) [] := specValidTables_w xs (by omega)


theorem vt_len {xs : List TTable} (h : vtB xs = true) : xs.length ≤ 16 := by
  simp only [vtB, ordT, Bool.and_eq_true, decide_eq_true_eq] at h
  exact h.1.1
open Go.RowKit Go.Shelf Go.Lib
def InsQ (w : World) (L : List Nat) (ys : List TTable) (e : Ending) (w' : World) : Prop :=
  ∃ (g cap : Nat) (t : TypeId) (arr : Array Value), e = .returned (.slice (some ⟨g, 0, none⟩) ys.length cap) ∧ ys.length ≤ cap ∧ cap ≤ maxLen ∧ w'.heap[g]? = some (.cells arr t (0, 0)) ∧ cap * 2 ≤ arr.size ∧
    (∀ (k : Nat) (v : Value), (tbC ys)[k]? = some v → arr[k]? = some v) ∧ Kept w w' L [g]
theorem first_cells {P : Program} {w : World} {g cap n : Nat} {arr : Array Value} {t : TypeId} {cs : List Value} (hg : w.heap[g]? = some (.cells arr t (0, 0))) (hl : cs.length = n * 2) (h : ∀ (k : Nat) (v : Value), cs[k]? = some v → arr[k]? = some v) :
    ∀ w', Ext w w' → (Builtin.firstCells 2 n (.slice (some ⟨g, 0, none⟩) n cap)).run P w' = .ok cs.toArray w' := fun w' hx => by
  refine run_firstCells_some w' 2 n ⟨g, 0, none⟩ n cap cs hl (fun j v hj => ?_)
  have hgw : w'.heap[g]? = some (.cells arr t (0, 0)) := by rw [hx.below.block g (lt_of_heap hg)]; exact hg
  rw [Addr.add_lit]
  simp [World.cell?, hgw, h j v hj]
set_option maxHeartbeats 4000000 in
set_option maxRecDepth 1000000 in
theorem ins_end (xs : List TTable) (x : TTable) (base : Option Addr) (cap vb vc : Nat) (t2 : TypeId) (arr2 : Array Value) (L : List Nat) (w : World) (hl : xs.length ≤ 1000) (hn : xs.length ≤ cap) (hm : cap ≤ maxLen) (hb0 : base = none → cap = 0)
    (hv : w.heap[vb]? = some (.cells arr2 t2 (0, 0))) (hva : ∀ (k : Nat) (v : Value), (tbC [x])[k]? = some v → arr2[k]? = some v)
    (hrow : cap ≠ 0 → ∃ g arr t, base = some ⟨g, 0, none⟩ ∧ L = [g] ∧ w.heap[g]? = some (.cells arr t (0, 0)) ∧ cap * 2 ≤ arr.size ∧ (∀ (k : Nat) (v : Value), (tbC xs)[k]? = some v → arr[k]? = some v)) :
    Calls Try.prog 32 #[.slice base xs.length cap, .int .i64 xs.length, .slice (some ⟨vb, 0, none⟩) 1 vc] w (InsQ w L (xs ++ [x])) := by
  obtain ⟨i0, hi, hz0, hz1, hz2⟩ := info_parts (show (Try.prog.info? 35).map (fun i => (i.zero, i.size, i.bytes)) = some (some (.agg #[.string .empty, .string .empty]), 2, 32) by kernel_rfl)
  have hra := run_app_sl (P := Try.prog) (w := w) (t := 24) (tx := 24) (ty := 24) (base := base) (sLen := xs.length) (sCap := cap) (x := .slice (some ⟨vb, 0, none⟩) 1 vc) (k := 1) (olds := tbC xs) (news := tbC [x]) Try.underlying24 Try.underlying24 hi hz0 (fun _ => rfl)
    (by rw [hz1]; exact first_cells hv rfl hva) (by rw [hz1]; rfl) (tbC_one _) (by
      rw [hz1]
      rcases Nat.eq_zero_or_pos cap with hc | hc
      · have h0 : xs = [] := List.eq_nil_of_length_eq_zero (by omega)
        subst h0
        intro w' _
        exact run_first0 _ _ _
      · obtain ⟨g, arr, t, rfl, -, hg, -, h⟩ := hrow (by omega)
        exact first_cells hg (by rw [tbC_len]; omega) h) (by rw [hz1, tbC_len]; omega) hb0 (by unfold maxLen; omega) (by rw [hz2]; omega)
    (fun hc => by
      obtain ⟨g, arr, t, e, -, hg, hs, -⟩ := hrow hc
      exact ⟨g, arr, t, e, hg, by rw [hz1]; exact hs⟩) hn
  have hrun : ∃ v w2, (Builtin.append_ #[24, 24] 24 #[.slice base xs.length cap, .slice (some ⟨vb, 0, none⟩) 1 vc]).run Try.prog w = .ok v w2 ∧ InsQ w L (xs ++ [x]) (.returned v) w2 := by
    have hly : (xs ++ [x]).length = xs.length + 1 := by simp
    have happ : tbC (xs ++ [x]) = tbC xs ++ tbC [x] := tbC_app _ _
    have lx : (tbC xs).length = 2 * xs.length := tbC_len _
    have l1 : (tbC [x]).length = 2 := rfl
    rcases hra with ⟨h1, cap', q1, q2, rest, q3, q4⟩ | ⟨h1, h2, _⟩ | ⟨h1, h2, g, arr, t, e, hg, hs, q⟩
    · refine ⟨_, _, q4, w.heap.size, cap', _, _, by rw [hly], by omega, q2, heap_new w.drew _, ?_, fun k v hk => ?_, rfl, rfl, rfl, by simp [World.alloc], fun y hy _ => heap_alloc_old w.drew _ hy, by simp, fun y hy => ?_, fun y hy => ?_⟩
      · have : (Value.agg #[.string .empty, .string .empty]).cells.size = 2 := rfl
        rw [this] at q3
        simp only [List.size_toArray, List.length_append, lx, l1, q3]
        omega
      · rw [happ] at hk
        have hlt := (List.getElem?_eq_some_iff.1 hk).1
        simp only [List.getElem?_toArray]
        rw [List.getElem?_append_left hlt]; exact hk
      · right; simp at hy; omega
      · simp at hy; subst hy; exact lt_of_heap (heap_new w.drew _)
    · omega
    · obtain ⟨g', arr', t', e', hL, hg', -, hel⟩ := hrow h2
      rw [e] at e'
      cases e'
      rw [hg] at hg'
      cases hg'
      rw [hz1] at hs q
      have hxz : (⟨xs⟩ : Array TTable).size = xs.length := rfl
      have hal : arr.toList.length = arr.size := Array.length_toList
      refine ⟨_, _, q, g, cap, t, _, by rw [hly, e], by omega, hm, setRow_at hg _, ?_, fun k v hk => ?_, rfl, rfl, rfl, by rw [setRow_size]; exact Nat.le_refl _, fun y hy hm => ?_, by simp, fun y hy => ?_, fun y hy => ?_⟩
      · simp only [List.size_toArray, List.length_append, List.length_take, List.length_drop, Array.length_toList, l1]
        omega
      · rw [happ] at hk
        simp only [List.getElem?_toArray]
        rw [List.getElem?_append] at hk
        split at hk
        · rename_i hk1
          rw [List.append_assoc, List.getElem?_append_left (by rw [List.length_take, Array.length_toList]; omega), List.getElem?_take, if_pos (by omega), Array.getElem?_toList]
          exact hel k v hk
        · rename_i hk1
          have hlt := (List.getElem?_eq_some_iff.1 hk).1
          rw [List.append_assoc, List.getElem?_append_right (by rw [List.length_take, Array.length_toList]; omega), List.getElem?_append_left (by rw [List.length_take, Array.length_toList]; omega)]
          rw [← hk]
          congr 1
          rw [List.length_take, Array.length_toList]; omega
      · rw [hL] at hm
        exact setRow_other (by simpa using hm) _
      · simp at hy; left; rw [hL]; simp [hy]
      · simp at hy; subst hy; rw [setRow_size]; exact lt_of_heap hg
  obtain ⟨v, w2, hr, hQ⟩ := hrun
  clear hra hrow
  go_enter Try.func32, Try.ntmps32
  go_wp2_with (at_builtin; refine Lib.wpList_append_run _ rfl _ _ _ _ rfl _ _ rfl rfl _ _ hr ?_)
  all_goals (go_ret; exact hQ)
open Go.RowKit Go.Shelf Go.Lib
theorem run_copy_two {P : Program} (w : World) (dT sT ty elem : TypeId) (b o dLen dCap : Nat) (a : Addr) (sLen sCap k : Nat) (cs : List Value)
    (hu : P.underlying dT = some (.slice elem)) (hs : (P.info? elem).map (·.size) = some 2) (hk : Nat.min sLen dLen = k) (hn : cs.length = k * 2)
    (hsrc : ∀ j v, cs[j]? = some v → w.cell? (a.add j) = some v) (hc : ∀ j, j < cs.length → (w.cell? ⟨b, o + j, none⟩).isSome = true) (hf : ∀ j, j < cs.length → w.frozen? ⟨b, o + j, none⟩ = false) (h1 : ∀ v ∈ cs, v.oneCell' = true) :
    (Builtin.copy_ #[dT, sT] ty #[.slice (some ⟨b, o, none⟩) dLen dCap, .slice (some a) sLen sCap]).run P w = .ok (goInt k) (w.setCells b o cs) := by
  have hl := run_loadCells_list (P := P) w a cs hsrc
  have hst := run_storeCells_cells (P := P) b o cs 0 w (by simpa using hc) (by simpa using hf) h1
  cases hq : P.info? elem with
  | none => simp [hq] at hs
  | some i =>
    have hi : i.size = 2 := by simpa [hq] using hs
    simp [Builtin.copy_, run_underlying hu, Builtin.lenOf, Builtin.firstCells, sizeOf, typeInfo, hq, hi, hk, ← hn, hl, hst]
def insL (i : Nat) (x : TTable) (xs : List TTable) : List TTable := xs.take i ++ x :: xs.drop i
theorem insL_len {i : Nat} {x : TTable} {xs : List TTable} (h : i ≤ xs.length) : (insL i x xs).length = xs.length + 1 := by simp [insL]; omega
theorem tbC_drop : ∀ (xs : List TTable) (j : Nat), (tbC xs).drop (j * 2) = tbC (xs.drop j) := by
  intro xs
  induction xs with
  | nil => intro j; simp [tbC]
  | cons x t ih =>
    intro j
    cases j with
    | zero => simp
    | succ j =>
      rw [show (j + 1) * 2 = j * 2 + 1 + 1 by omega, tbC, List.drop_succ_cons, List.drop_succ_cons, List.drop_succ_cons]
      exact ih j
theorem tbC_ins (i : Nat) (x : TTable) (xs : List TTable) : tbC (insL i x xs) = (tbC xs).take (i * 2) ++ (tbC [x] ++ (tbC xs).drop (i * 2)) := by
  rw [insL, tbC_app, tbC_take, tbC_drop]; rfl
set_option maxHeartbeats 4000000 in
set_option maxRecDepth 1000000 in
theorem ins_room (xs : List TTable) (x : TTable) (i g cap vb vc : Nat) (t t2 : TypeId) (arr arr2 : Array Value) (w : World) (hi : i < xs.length) (hl : xs.length ≤ 1000) (hroom : xs.length + 1 ≤ cap) (hm : cap ≤ maxLen)
    (hg : w.heap[g]? = some (.cells arr t (0, 0))) (hcap : cap * 2 ≤ arr.size) (hel : ∀ (k : Nat) (v : Value), (tbC xs)[k]? = some v → arr[k]? = some v)
    (hv : w.heap[vb]? = some (.cells arr2 t2 (0, 0))) (hva : ∀ (k : Nat) (v : Value), (tbC [x])[k]? = some v → arr2[k]? = some v) (hne : vb ≠ g) :
    Calls Try.prog 32 #[.slice (some ⟨g, 0, none⟩) xs.length cap, .int .i64 i, .slice (some ⟨vb, 0, none⟩) 1 vc] w (InsQ w [g] (insL i x xs)) := by
  obtain ⟨i0, hi0, hz0, hzs, hzb⟩ := info_parts (show (Try.prog.info? 35).map (fun i => (i.zero, i.size, i.bytes)) = some (some (.agg #[.string .empty, .string .empty]), 2, 32) by kernel_rfl)
  have hsz : (Try.prog.info? 35).map (·.size) = some 2 := by rw [hi0]; simp [hzs]
  have lx : (tbC xs).length = 2 * xs.length := tbC_len _
  have l1 : (tbC [x]).length = 2 := rfl
  have ld : ((tbC xs).drop (i * 2)).length = (xs.length - i) * 2 := by rw [List.length_drop, lx]; omega
  have hgd : w.drew.heap[g]? = some (.cells arr t (0, 0)) := hg
  have hsz0 : ∀ w, (Go.sizeOf 35).run Try.prog w = .ok 2 w := fun w => by simp [sizeOf, typeInfo, hi0, hzs]
  have hov : ∀ lb cb, (callFunc 50 #[.slice (some ⟨vb, 0, none⟩) 1 vc, .slice (some ⟨g, (i + 1) * 2, none⟩) lb cb]).run Try.prog w = .ok (.value (.bool false)) w := fun lb cb => by
    rw [run_callFunc_extern Try.func50 (by kernel_rfl) (by kernel_rfl) (by kernel_rfl) (e := Extern.SlicesOverlaps.overlaps #[24, 24] #[4]) (by kernel_rfl),
      Lib.run_overlaps_apart w 24 4 35 Try.underlying24 2 hsz0 ⟨vb, 0, none⟩ ⟨g, (i + 1) * 2, none⟩ 1 vc lb cb hne t2 t arr2.size arr.size (by simp [World.shape?, hv]) (by simp [World.shape?, hg]) (by omega) (by simp [World.frozen?, hv]) (by simp [World.frozen?, hv])]
    rfl
  have hcp1 : ∀ ty dc sc, (Builtin.copy_ #[24, 24] ty #[.slice (some ⟨g, (i + 1) * 2, none⟩) (xs.length - i) dc, .slice (some ⟨g, i * 2, none⟩) (xs.length + 1 - i) sc]).run Try.prog w.drew = .ok (goInt ((xs.length - i : Nat) : Int)) (w.drew.setCells g ((i + 1) * 2) ((tbC xs).drop (i * 2))) := fun ty dc sc =>
    run_copy_two w.drew 24 24 ty 35 g ((i + 1) * 2) (xs.length - i) dc ⟨g, i * 2, none⟩ (xs.length + 1 - i) sc (xs.length - i) _ Try.underlying24 hsz (by simp only [Nat.min_def]; split <;> omega) ld
      (fun j v hj => by
        rw [List.getElem?_drop] at hj
        have := hel _ v hj
        rw [Addr.add_lit]
        simp [World.cell?, hgd, this])
      (fun j hj => by rw [ld] at hj; simp [World.cell?, hgd, show (i + 1) * 2 + j < arr.size by omega]) (fun j hj => by simp [World.frozen?, hgd]) (fun v hv => tbC_one _ v (List.mem_of_mem_drop hv))
  obtain ⟨W1, hW1⟩ : ∃ W1, W1 = w.drew.setCells g ((i + 1) * 2) ((tbC xs).drop (i * 2)) := ⟨_, rfl⟩
  obtain ⟨a1, e1, e2, e3, e4, e5, e6, e7, e8, e9⟩ := setCells_arr ((tbC xs).drop (i * 2)) w.drew g ((i + 1) * 2) arr hgd (by rw [ld]; omega)
  rw [← hW1] at e1 e5 e6 e7 e8 e9
  have hv1 : W1.heap[vb]? = some (.cells arr2 t2 (0, 0)) := by rw [e5 vb hne]; exact hv
  have hcp2 : ∀ (W : World), (∀ x, W.cell? x = W1.cell? x) → (∀ x, W.frozen? x = W1.frozen? x) → ∀ ty dc, (Builtin.copy_ #[24, 24] ty #[.slice (some ⟨g, i * 2, none⟩) (xs.length + 1 - i) dc, .slice (some ⟨vb, 0, none⟩) 1 vc]).run Try.prog W = .ok (goInt 1) (W.setCells g (i * 2) (tbC [x])) := fun W hWc hWf ty dc =>
    run_copy_two W 24 24 ty 35 g (i * 2) (xs.length + 1 - i) dc ⟨vb, 0, none⟩ 1 vc 1 (tbC [x]) Try.underlying24 hsz (by simp only [Nat.min_def]; split <;> omega) rfl
      (fun j v hj => by
        have := hva _ v hj
        rw [hWc, Addr.add_lit]
        simp [World.cell?, hv1, this])
      (fun j hj => by rw [l1] at hj; rw [hWc]; simp [World.cell?, e1, show i * 2 + j < a1.size by omega]) (fun j hj => by rw [hWf]; simp [World.frozen?, e1]) (tbC_one _)
  obtain ⟨a2, f1, f2, f3, f4, f5, f6, f7, f8, f9⟩ := setCells_arr (tbC [x]) W1 g (i * 2) a1 e1 (by rw [l1]; omega)
  have hQ : InsQ w [g] (insL i x xs) (.returned (.slice (some ⟨g, 0, none⟩) (xs.length + 1) cap)) (W1.setCells g (i * 2) (tbC [x])) := by
    have hly := insL_len (x := x) (Nat.le_of_lt hi)
    have hlt := lt_of_heap hg
    refine ⟨g, cap, t, a2, by rw [hly], by omega, hm, f1, by omega, fun k v hk => ?_, by rw [f7, e7]; rfl, by rw [f8, e8]; rfl, by rw [f9, e9]; rfl, by rw [f6, e6]; exact Nat.le_refl _, fun y hy hm => ?_, by simp, fun y hy => .inl hy, fun y hy => ?_⟩
    · rw [tbC_ins, List.getElem?_append] at hk
      have lt' : ((tbC xs).take (i * 2)).length = i * 2 := by rw [List.length_take, lx]; omega
      rw [lt'] at hk
      split at hk
      · rename_i hk1
        rw [f4 k (.inl hk1), e4 k (.inl (by omega))]
        rw [List.getElem?_take, if_pos hk1] at hk
        exact hel k v hk
      · rename_i hk1
        rw [List.getElem?_append, l1] at hk
        split at hk
        · rename_i hk2
          rw [f3 k (by omega) (by rw [l1]; omega)]; exact hk
        · rename_i hk2
          have hlt2 := (List.getElem?_eq_some_iff.1 hk).1
          rw [ld] at hlt2
          rw [f4 k (.inr (by rw [l1]; omega)), e3 k (by omega) (by rw [ld]; omega)]
          rw [← hk]; congr 1; omega
    · have hy2 : y ≠ g := by simpa using hm
      rw [f5 y hy2, e5 y hy2]; rfl
    · simp at hy; subst hy; rw [f6, e6]; exact hlt
  have mixed : Try.prog.follows .mixedOrders = true := by kernel_rfl
  have hz2 : ¬ ((i : Int) = (xs.length : Int)) := by omega
  have hw1 : IntKind.i64.wrap ((i : Int) + 1) = (i : Int) + 1 := by rw [IntKind.wrap_i64]; omega
  have hin : i ≤ xs.length := by omega
  have hb1 : (0 : Int) ≤ (i : Int) + 1 := by omega
  have hb3 : (i : Int) ≤ (xs.length : Int) + 1 := by omega
  have htn : ((i : Int) + 1).toNat = i + 1 := by omega
  have hb2 : ¬ (cap = i + 1) := by omega
  have hb4 : ¬ (cap = i) := by omega
  rw [← hW1] at hcp1
  clear e1 e2 e3 e4 e5 e6 e7 e8 e9 f1 f2 f3 f4 f5 f6 f7 f8 f9 hel hva hv1 hW1 lx l1 ld hsz0 hg hgd hv
  go_enter Try.func32, Try.ntmps32
  go_wp2_with (simp only [hov])
  go_region_law_o (refine step_copy_runI rfl _ _ 24 24 rfl _ _ (by simp [Act.eval, Act.put]) (by simp [Act.eval, Act.put]) (hcp1 _ _ _) ?_)
  go_wp2_with (at_builtin; refine wpList_copy_runI _ rfl _ _ 24 24 rfl _ _ rfl rfl (hcp2 _ (fun _ => rfl) (fun _ => rfl) _ _) ?_)
  go_ret
  exact hQ
open Go.RowKit Go.Shelf Go.Lib
set_option maxHeartbeats 4000000 in
set_option maxRecDepth 1000000 in
theorem ins_grow (xs : List TTable) (x : TTable) (i g cap vb vc : Nat) (t t2 : TypeId) (arr arr2 : Array Value) (w : World) (hi : i < xs.length) (hl : xs.length ≤ 1000) (hn : xs.length ≤ cap) (hroom : cap < xs.length + 1)
    (hg : w.heap[g]? = some (.cells arr t (0, 0))) (hcap : cap * 2 ≤ arr.size) (hel : ∀ (k : Nat) (v : Value), (tbC xs)[k]? = some v → arr[k]? = some v)
    (hv : w.heap[vb]? = some (.cells arr2 t2 (0, 0))) (hva : ∀ (k : Nat) (v : Value), (tbC [x])[k]? = some v → arr2[k]? = some v) :
    Calls Try.prog 32 #[.slice (some ⟨g, 0, none⟩) xs.length cap, .int .i64 i, .slice (some ⟨vb, 0, none⟩) 1 vc] w (InsQ w [g] (insL i x xs)) := by
  obtain ⟨i0, hi0, hz0, hzs, hzb⟩ := info_parts (show (Try.prog.info? 35).map (fun i => (i.zero, i.size, i.bytes)) = some (some (.agg #[.string .empty, .string .empty]), 2, 32) by kernel_rfl)
  have hsz : (Try.prog.info? 35).map (·.size) = some 2 := by rw [hi0]; simp [hzs]
  have lx : (tbC xs).length = 2 * xs.length := tbC_len _
  have l1 : (tbC [x]).length = 2 := rfl
  have ld : ((tbC xs).drop (i * 2)).length = (xs.length - i) * 2 := by rw [List.length_drop, lx]; omega
  have lt' : ((tbC xs).take (i * 2)).length = i * 2 := by rw [List.length_take, lx]; omega
  have hgw := lt_of_heap hg
  have hvw := lt_of_heap hv
  have hik : i + (xs.length + 1 - i) = xs.length + 1 := by omega
  have hkk : (xs.length : Int) + 1 - (i : Int) = ((xs.length + 1 - i : Nat) : Int) := by omega
  have hold : (Builtin.firstCells i0.size i (.slice (some ⟨g, 0, none⟩) i cap)).run Try.prog w.drew = .ok ((tbC xs).take (i * 2)).toArray w.drew := by
    rw [hzs]
    exact first_cells (n := i) hg lt' (fun k v hk => by
      rw [List.getElem?_take] at hk
      split at hk
      · exact hel k v hk
      · cases hk) w.drew (Ext.refl w).drew
  have hrz : ∀ ty, (Builtin.append_ #[24, 3] ty #[.slice (some ⟨g, 0, none⟩) i cap, .int .i64 ((xs.length : Int) + 1 - (i : Int))]).run Try.prog w =
      .ok (.slice (some ⟨w.heap.size, 0, none⟩) (xs.length + 1) (grownCap w (xs.length + 1) cap 35)) (w.drew.alloc (.cells (((tbC xs).take (i * 2)).toArray ++ Builtin.zeroCells #[.string .empty, .string .empty] (xs.length + 1 - i) ++ Builtin.zeroCells #[.string .empty, .string .empty] (grownCap w (xs.length + 1) cap 35 - (xs.length + 1))) 35)) := fun ty => by
    have h := Lib.run_append_grow_zeros w 24 3 ty 35 i0 _ .i64 .i64 Try.underlying24 Try.underlying3 hi0 hz0 (some ⟨g, 0, none⟩) i cap ((tbC xs).take (i * 2)) hold (xs.length + 1 - i) (by omega) (by omega) (by omega) (by omega) (by rw [hzb]; omega) (by rw [hzb, hik]; exact growslice_fits hroom (by omega))
    rw [hik] at h
    rw [hkk]
    exact h
  obtain ⟨G, hG⟩ : ∃ G, G = grownCap w (xs.length + 1) cap 35 := ⟨_, rfl⟩
  have hGn : xs.length + 1 ≤ G := by rw [hG]; exact grownCap_ge w _ _ _
  have hG63 : G ≤ maxLen := by rw [hG]; exact grownCap_le_maxLen w (xs.length + 1) cap _ (by unfold maxLen; omega)
  rw [← hG] at hrz
  obtain ⟨ROW, hROW⟩ : ∃ ROW : Array Value, ROW = ((tbC xs).take (i * 2)).toArray ++ Builtin.zeroCells #[.string .empty, .string .empty] (xs.length + 1 - i) ++ Builtin.zeroCells #[.string .empty, .string .empty] (G - (xs.length + 1)) := ⟨_, rfl⟩
  rw [← hROW] at hrz
  have hRl : ROW.size = G * 2 := by
    rw [hROW]
    have h2 : (#[Value.string .empty, .string .empty] : Array Value).size = 2 := rfl
    simp only [Array.size_append, List.size_toArray, lt', Builtin.zeroCells, Array.size_map, Array.size_range, h2]
    omega
  have hRt : ∀ (k : Nat), k < i * 2 → ROW[k]? = (tbC xs)[k]? := fun k hk => by
    rw [hROW, Array.append_assoc, Array.getElem?_append_left (by simp only [List.size_toArray, lt']; exact hk), List.getElem?_toArray, List.getElem?_take, if_pos hk]
  obtain ⟨W1, hW1⟩ : ∃ W1, W1 = w.drew.alloc (.cells ROW 35) := ⟨_, rfl⟩
  rw [← hW1] at hrz
  have hN : W1.heap[w.heap.size]? = some (.cells ROW 35 (0, 0)) := by rw [hW1]; exact heap_new w.drew _
  have hO : ∀ y, y < w.heap.size → W1.heap[y]? = w.heap[y]? := fun y hy => by rw [hW1]; exact heap_alloc_old w.drew _ hy
  have hS : W1.heap.size = w.heap.size + 1 := by rw [hW1]; simp [World.alloc]
  have hv1 : W1.heap[vb]? = some (.cells arr2 t2 (0, 0)) := by rw [hO vb hvw]; exact hv
  have hg1 : W1.heap[g]? = some (.cells arr t (0, 0)) := by rw [hO g hgw]; exact hg
  have hcpA : ∀ (W : World), (∀ x, W.cell? x = W1.cell? x) → (∀ x, W.frozen? x = W1.frozen? x) → ∀ ty dc, (Builtin.copy_ #[24, 24] ty #[.slice (some ⟨w.heap.size, i * 2, none⟩) (xs.length + 1 - i) dc, .slice (some ⟨vb, 0, none⟩) 1 vc]).run Try.prog W = .ok (goInt 1) (W.setCells w.heap.size (i * 2) (tbC [x])) := fun W hWc hWf ty dc =>
    run_copy_two W 24 24 ty 35 w.heap.size (i * 2) (xs.length + 1 - i) dc ⟨vb, 0, none⟩ 1 vc 1 (tbC [x]) Try.underlying24 hsz (by simp only [Nat.min_def]; split <;> omega) rfl
      (fun j v hj => by
        have := hva _ v hj
        rw [hWc, Addr.add_lit]
        simp [World.cell?, hv1, this])
      (fun j hj => by rw [l1] at hj; rw [hWc]; simp [World.cell?, hN, show i * 2 + j < ROW.size by omega]) (fun j hj => by rw [hWf]; simp [World.frozen?, hN]) (tbC_one _)
  obtain ⟨a1, e1, e2, e3, e4, e5, e6, e7, e8, e9⟩ := setCells_arr (tbC [x]) W1 w.heap.size (i * 2) ROW hN (by rw [l1]; omega)
  have hg2 : (W1.setCells w.heap.size (i * 2) (tbC [x])).heap[g]? = some (.cells arr t (0, 0)) := by rw [e5 g (by omega)]; exact hg1
  have hcpB : ∀ (W : World), (∀ y, W.cell? y = (W1.setCells w.heap.size (i * 2) (tbC [x])).cell? y) → (∀ y, W.frozen? y = (W1.setCells w.heap.size (i * 2) (tbC [x])).frozen? y) → ∀ ty dc sc, (Builtin.copy_ #[24, 24] ty #[.slice (some ⟨w.heap.size, (i + 1) * 2, none⟩) (xs.length - i) dc, .slice (some ⟨g, i * 2, none⟩) (xs.length - i) sc]).run Try.prog W = .ok (goInt ((xs.length - i : Nat) : Int)) (W.setCells w.heap.size ((i + 1) * 2) ((tbC xs).drop (i * 2))) := fun W hWc hWf ty dc sc =>
    run_copy_two W 24 24 ty 35 w.heap.size ((i + 1) * 2) (xs.length - i) dc ⟨g, i * 2, none⟩ (xs.length - i) sc (xs.length - i) _ Try.underlying24 hsz (by simp) ld
      (fun j v hj => by
        rw [List.getElem?_drop] at hj
        have := hel _ v hj
        rw [hWc, Addr.add_lit]
        simp [World.cell?, hg2, this])
      (fun j hj => by rw [ld] at hj; rw [hWc]; simp [World.cell?, e1, show (i + 1) * 2 + j < a1.size by omega]) (fun j hj => by rw [hWf]; simp [World.frozen?, e1]) (fun v hv => tbC_one _ v (List.mem_of_mem_drop hv))
  obtain ⟨a2, f1, f2, f3, f4, f5, f6, f7, f8, f9⟩ := setCells_arr ((tbC xs).drop (i * 2)) (W1.setCells w.heap.size (i * 2) (tbC [x])) w.heap.size ((i + 1) * 2) a1 e1 (by rw [ld]; omega)
  have hQ : InsQ w [g] (insL i x xs) (.returned (.slice (some ⟨w.heap.size, 0, none⟩) (xs.length + 1) G)) ((W1.setCells w.heap.size (i * 2) (tbC [x])).setCells w.heap.size ((i + 1) * 2) ((tbC xs).drop (i * 2))) := by
    have hly := insL_len (x := x) (Nat.le_of_lt hi)
    refine ⟨w.heap.size, G, _, a2, by rw [hly], by omega, hG63, f1, by omega, fun k v hk => ?_, by rw [f7, e7, hW1]; rfl, by rw [f8, e8, hW1]; rfl, by rw [f9, e9, hW1]; rfl, by rw [f6, e6, hS]; omega, fun y hy hm => ?_, by simp, fun y hy => ?_, fun y hy => ?_⟩
    · rw [tbC_ins, List.getElem?_append, lt'] at hk
      split at hk
      · rename_i hk1
        rw [f4 k (.inl (by omega)), e4 k (.inl hk1), hRt k hk1]
        rw [List.getElem?_take, if_pos hk1] at hk
        exact hk
      · rename_i hk1
        rw [List.getElem?_append, l1] at hk
        split at hk
        · rename_i hk2
          rw [f4 k (.inl (by omega)), e3 k (by omega) (by rw [l1]; omega)]; exact hk
        · rename_i hk2
          have hlt2 := (List.getElem?_eq_some_iff.1 hk).1
          rw [ld] at hlt2
          rw [f3 k (by omega) (by rw [ld]; omega)]
          rw [← hk]; congr 1; omega
    · rw [f5 y (by omega), e5 y (by omega), hO y hy]
    · simp at hy; right; omega
    · simp at hy; subst hy; rw [f6, e6, hS]; omega
  have mixed : Try.prog.follows .mixedOrders = true := by kernel_rfl
  have hz2 : ¬ ((i : Int) = (xs.length : Int)) := by omega
  have hz3 : (cap : Int) < (xs.length : Int) + 1 := by omega
  have hw1 : IntKind.i64.wrap ((i : Int) + 1) = (i : Int) + 1 := by rw [IntKind.wrap_i64]; omega
  have hin : i ≤ xs.length := by omega
  have hb1 : (0 : Int) ≤ (i : Int) + 1 := by omega
  have hb3 : (i : Int) ≤ (xs.length : Int) := by omega
  have htn : ((i : Int) + 1).toNat = i + 1 := by omega
  have hGi : ¬ (G = i) := by omega
  have hGim : ¬ (G = i + 1) := by omega
  have hci : ¬ (cap = i) := by omega
  subst hW1
  have hE1 : ∀ y, ((w.alloc (.cells ROW 35)).drew).cell? y = (w.drew.alloc (.cells ROW 35)).cell? y := fun y => rfl
  have hE2 : ∀ y, ((w.alloc (.cells ROW 35)).drew).frozen? y = (w.drew.alloc (.cells ROW 35)).frozen? y := fun y => rfl
  have hF1 : ∀ y, (((w.alloc (.cells ROW 35)).drew.setCells w.heap.size (i * 2) (tbC [x])).drew).cell? y = ((w.drew.alloc (.cells ROW 35)).setCells w.heap.size (i * 2) (tbC [x])).cell? y := fun y => rfl
  have hF2 : ∀ y, (((w.alloc (.cells ROW 35)).drew.setCells w.heap.size (i * 2) (tbC [x])).drew).frozen? y = ((w.drew.alloc (.cells ROW 35)).setCells w.heap.size (i * 2) (tbC [x])).frozen? y := fun y => rfl
  have hQ' : InsQ w [g] (insL i x xs) (.returned (.slice (some ⟨w.heap.size, 0, none⟩) (xs.length + 1) G)) ((((w.alloc (.cells ROW 35)).drew.setCells w.heap.size (i * 2) (tbC [x])).drew).setCells w.heap.size ((i + 1) * 2) ((tbC xs).drop (i * 2))) := by
    rw [drew_setCells, ← drew_setCells w.heap.size (tbC [x]), ← drew_setCells]
    obtain ⟨g', cap', t', arr', q1, q2, q3, q4, q5, q6, q7⟩ := hQ
    exact ⟨g', cap', t', arr', q1, q2, q3, q4, q5, q6, ⟨q7.os, q7.tape, q7.output, q7.size, q7.ch, q7.nd, q7.sub, q7.hi⟩⟩
  clear hQ
  clear hkk hik hold hROW hG hRl hRt hN hO hS hv1 hg1 hg2 e1 e2 e3 e4 e5 e6 e7 e8 e9 f1 f2 f3 f4 f5 f6 f7 f8 f9 hel hva lx l1 ld lt' hg hv hgw hvw
  go_enter Try.func32, Try.ntmps32
  go_wp2_with (first
    | (at_builtin; refine Lib.wpList_append_run _ rfl _ _ _ _ rfl _ _ rfl rfl _ _ (hrz _) ?_)
    | (at_builtin; refine wpList_copy_runI _ rfl _ _ 24 24 rfl _ _ rfl rfl (hcpA _ hE1 hE2 _ _) ?_))
  go_region_law_o (refine step_copy_runI rfl _ _ 24 24 rfl (.slice (some ⟨w.heap.size, (i + 1) * 2, none⟩) (xs.length - i) (G - (i + 1))) (.slice (some ⟨g, i * 2, none⟩) (xs.length - i) (cap - i)) (by simp [Act.eval, Act.put]) (by simp [Act.eval, Act.put]) (hcpB _ hF1 hF2 3 (G - (i + 1)) (cap - i)) ?_)
  go_wp2
  go_ret
  exact hQ'
open Go.RowKit Go.Shelf Go.Lib
theorem insL_end (x : TTable) (xs : List TTable) : insL xs.length x xs = xs ++ [x] := by simp [insL]
theorem Insert_m {xs : List TTable} {x : TTable} {i b c len : Nat} {e : Env} {h : List Blk} {K : V → Env → List Blk → Prop} (hi : i ≤ xs.length) (hl : xs.length ≤ 1000) (hlen : len = xs.length)
    (hb : h[b]? = some (.arr 2 (xs.map TTable.D) true)) (hc : h[c]? = some (.arr 2 [x.D] true)) (hb0 : 1 ≤ b) (hbc : b ≠ c)
    (H : K (.own b 0 (xs.length + 1)) (dropE [b] e) ((dropK [b] h).set b (.arr 2 ((insL i x xs).map TTable.D) true))) :
    CallM Try.prog 32 [.own b 0 len, .d (.int .i64 (i : Nat)), .own c 0 1] e h K where
  fn := ⟨_, Try.func32, rfl, rfl⟩
  run B X N M a w args R hargs := by
    subst hlen
    obtain ⟨c0, r0, rfl, p0, c1, r1, rfl, p1, c2, r2, rfl, p2, rfl⟩ := hargs
    obtain ⟨rfl, -⟩ := rep_int.1 (rep_of_rep1 p1)
    obtain ⟨ad, cap, rfl, k1, k2, k3, k4⟩ := rep_own.1 (rep_of_rep1 p0)
    obtain ⟨ad2, vc, rfl, j1, j2, j3, j4⟩ := rep_own.1 (rep_of_rep1 p2)
    have hn : nOf h b = 2 := by simp [nOf, hb]
    have hn2 : nOf h c = 2 := by simp [nOf, hc]
    rcases j4 with j4 | ⟨vb, F2, arr2, t2, m1, m2, m3, m4⟩
    · omega
    rw [Nat.zero_mul] at m2
    subst m2
    obtain ⟨arr0, t0, s1, s2, s3⟩ : ∃ arr t, w.heap[vb]? = some (.cells arr t (0, 0)) ∧ [x.D].length * 2 ≤ arr.size ∧ (if true = true then ownDe w arr 2 [x.D] 0 F2 else F2 = [] ∧ extDe M.O w arr 2 [x.D] 0) := R.inv.blk c _ _ hc m1
    rw [m3] at s1
    cases s1
    rw [if_pos rfl] at s3
    obtain ⟨-, hva, hsx⟩ := tab_cells [x] 0 F2 s3
    replace hva : ∀ (k : Nat) (v : Value), (tbC [x])[k]? = some v → arr2[k]? = some v := fun k v hk => by have := hva k v hk; rwa [Nat.zero_mul, Nat.zero_add] at this
    have hbl : b < h.length := (List.getElem?_eq_some_iff.1 hb).1
    obtain ⟨m0, hM⟩ := at_lt (xs := M) (k := b) (by rw [R.inv.len]; exact hbl)
    have hlo := R.inv.lo b _ _ hb hM rfl
    have hly := insL_len (x := x) hi
    have fin : ∀ (L : List Nat), (∀ z ∈ L, z ∈ mO m0) → (∀ y ∈ xs, y.fTag.size ≤ maxLen ∧ y.fData.size ≤ maxLen) → ∀ en w', InsQ w L (insL i x xs) en w' → ∃ v cv e' h' M', en = .returned cv ∧ K v e' h' ∧ Rep B X N M' e' h' a w' ∧ rep w' M' h' v cv := by
      rintro L hLs hsz en w' ⟨g', cap', t', arr', rfl, q1, q2, q3, q4, q5, q6⟩
      have hxB : Ext B w' := Below.trans R.ext ⟨q6.os, q6.tape, q6.output, q6.size, fun k hk => q6.ch k (Nat.lt_of_lt_of_le hk R.base) (fun hm => by
        have := hlo k (hLs k hm)
        omega)⟩
      have hnf : nOf ((dropK [b] h).set b (.arr 2 ((insL i x xs).map TTable.D) true)) b = 2 := by
        unfold nOf; rw [List.getElem?_set_self (by rw [dropK_len]; exact hbl)]
      obtain ⟨M', R', hM', _⟩ := R.reset (w' := w') hxB hM (by omega) hb (.inl rfl) [] [b] (by simp) (by simp) (by simp) (by simp) (m' := some (g', [])) q6.nd
        (fun z hz => (q6.sub z hz).imp (hLs z) (fun q => .inr q)) q6.hi q6.size (fun z hz hzm => q6.ch z hz (fun q => hzm (hLs z q))) (k' := .arr 2 ((insL i x xs).map TTable.D) true) rfl (fun q => absurd (by simp) q)
        (fun M' h' _ => ⟨arr', t', q3, by rw [List.length_map]; omega, by
          rw [if_pos rfl]
          refine cells_tab _ 0 (fun k v hk => by rw [Nat.zero_mul, Nat.zero_add]; exact q5 k v hk) (fun y hy => ?_)
          simp only [insL, List.mem_append, List.mem_cons] at hy
          rcases hy with hy | rfl | hy
          · exact hsz y (List.mem_of_mem_take hy)
          · exact hsx y (by simp)
          · exact hsz y (List.mem_of_mem_drop hy)⟩)
      refine ⟨.own b 0 (xs.length + 1), _, _, _, M', rfl, H, R', rep_own.2 ⟨_, cap', by rw [hly], by omega, q2, by simp, .inr ⟨g', [], arr', t', hM', ?_, q3, ?_⟩⟩⟩
      · rw [Nat.zero_mul]
      · rw [show nOf _ b = 2 from hnf]; omega
    rcases k4 with k4 | ⟨g, F, arr, t, n1, n2, n3, n4⟩
    · have h0 : xs = [] := List.eq_nil_of_length_eq_zero (by omega)
      subst h0
      obtain rfl : i = 0 := by simpa using hi
      subst k4
      have := ins_end [] x ad 0 vb vc t2 arr2 [] w (by simp) (by simp) (by simp) (fun _ => rfl) m3 hva (fun q => absurd rfl q)
      refine Calls.mono this ?_
      exact fin [] (by simp) (by simp)
    · rw [hM] at n1
      cases n1
      rw [Nat.zero_mul] at n2
      subst n2
      rw [hn, Nat.zero_add] at n4
      obtain ⟨arr0, t0, s1, s2, s3⟩ : ∃ arr t, w.heap[g]? = some (.cells arr t (0, 0)) ∧ (xs.map TTable.D).length * 2 ≤ arr.size ∧ (if true = true then ownDe w arr 2 (xs.map TTable.D) 0 F else F = [] ∧ extDe M.O w arr 2 (xs.map TTable.D) 0) := R.inv.blk b _ _ hb hM
      rw [n3] at s1
      cases s1
      rw [if_pos rfl] at s3
      obtain ⟨-, hel, hsz⟩ := tab_cells xs 0 F s3
      replace hel : ∀ (k : Nat) (v : Value), (tbC xs)[k]? = some v → arr[k]? = some v := fun k v hk => by have := hel k v hk; rwa [Nat.zero_mul, Nat.zero_add] at this
      have hne : vb ≠ g := fun q => by
        subst q
        exact hbc (O_block_inj R.inv m1 hM (x := vb) (by simp [mO]) (by simp [mO]))
      have hcall : Calls Try.prog 32 #[.slice (some ⟨g, 0, none⟩) xs.length cap, .int .i64 i, .slice (some ⟨vb, 0, none⟩) 1 vc] w (InsQ w [g] (insL i x xs)) := by
        rcases Nat.lt_or_ge i xs.length with hil | hil
        · rcases Nat.lt_or_ge cap (xs.length + 1) with hr | hr
          · exact ins_grow xs x i g cap vb vc t t2 arr arr2 w hil hl k1 hr n3 n4 hel m3 hva
          · exact ins_room xs x i g cap vb vc t t2 arr arr2 w hil hl hr k2 n3 n4 hel m3 hva hne
        · obtain rfl : i = xs.length := by omega
          rw [insL_end]
          exact ins_end xs x _ cap vb vc t2 arr2 [g] w hl k1 k2 (by simp) m3 hva (fun _ => ⟨g, arr, t, rfl, rfl, n3, n4, hel⟩)
      refine Calls.mono hcall ?_
      exact fin [g] (by simp [mO]) hsz
theorem cli_ {xs : List TTable} {x : TTable} {i b c len : Nat} {e : Env} {h : List Blk} {K : V → Env → List Blk → Prop} {Q : Prop} (hi : i ≤ xs.length) (hl : xs.length ≤ 1000) (H : Q) (hlen : len = xs.length := by (first | rfl | omega | (simp; done)))
    (hb : h[b]? = some (.arr 2 (xs.map TTable.D) true) := by rfl) (hc : h[c]? = some (.arr 2 [x.D] true) := by rfl) (hb0 : Nat.ble 1 b = true := by rfl) (hbc : Nat.beq b c = false := by rfl)
    (hk : Q → K (.own b 0 (xs.length + 1)) (dropE [b] e) ((dropK [b] h).set b (.arr 2 ((insL i x xs).map TTable.D) true)) := by (intro H; (conv => whnf); exact H)) :
    CallW Try.prog false 32 [.own b 0 len, .d (.int .i64 (i : Nat)), .own c 0 1] e h K :=
  ⟨.inr ⟨rfl, Insert_m hi hl hlen hb hc (Nat.le_of_ble_eq_true hb0) (fun q => by subst q; rw [show Nat.beq b b = true from Nat.beq_refl b] at hbc; cases hbc) (hk H)⟩⟩
def cmT (a b : ByteArray) : Int := Lib.compareBytes a.data.toList b.data.toList
theorem cmL_rng : ∀ (a b : List UInt8), -1 ≤ Lib.compareBytes a b ∧ Lib.compareBytes a b ≤ 1
  | [], [] => by simp [Lib.compareBytes]
  | [], _ :: _ => by simp [Lib.compareBytes]
  | _ :: _, [] => by simp [Lib.compareBytes]
  | a :: s, b :: t => by
    rw [Lib.compareBytes]
    split
    · omega
    · split
      · omega
      · exact cmL_rng s t
theorem cmL_less : ∀ (a b : List UInt8), Lib.compareBytes a b < 0 ↔ Op.bytesLess a b = true
  | [], [] => by simp [Lib.compareBytes, Op.bytesLess]
  | [], _ :: _ => by simp [Lib.compareBytes, Op.bytesLess]
  | _ :: _, [] => by simp [Lib.compareBytes, Op.bytesLess]
  | a :: s, b :: t => by
    rw [Lib.compareBytes, Op.bytesLess]
    by_cases h1 : a < b
    · simp [h1]
    · rw [if_neg h1]
      by_cases h2 : b < a
      · rw [if_pos h2]
        have : ¬ a = b := fun e => by subst e; exact h1 h2
        simp [h1, this]
      · rw [if_neg h2]
        have e : a = b := by
          have h1' : ¬ a.toNat < b.toNat := h1
          have h2' : ¬ b.toNat < a.toNat := h2
          exact UInt8.toNat.inj (by omega)
        subst e
        rw [cmL_less s t]
        simp [h1]
theorem cmL_eq : ∀ (a b : List UInt8), Lib.compareBytes a b = 0 ↔ a = b
  | [], [] => by simp [Lib.compareBytes]
  | [], _ :: _ => by simp [Lib.compareBytes]
  | _ :: _, [] => by simp [Lib.compareBytes]
  | a :: s, b :: t => by
    rw [Lib.compareBytes]
    split
    · rename_i h
      have : ¬ a = b := fun e => by subst e; exact absurd h (by show ¬ a.toNat < a.toNat; omega)
      simp [this]
    · rename_i h
      split
      · rename_i h2
        have : ¬ a = b := fun e => by subst e; exact h h2
        simp [this]
      · rename_i h2
        have e : a = b := by
          have h1' : ¬ a.toNat < b.toNat := h
          have h2' : ¬ b.toNat < a.toNat := h2
          exact UInt8.toNat.inj (by omega)
        subst e
        rw [cmL_eq s t]; simp
theorem less_trans : ∀ (a b c : List UInt8), Op.bytesLess a b = true → Op.bytesLess b c = true → Op.bytesLess a c = true
  | _, [], _, h, _ => by simp [Op.bytesLess] at h
  | _, _ :: _, [], _, h => by simp [Op.bytesLess] at h
  | [], _ :: _, _ :: _, _, _ => by simp [Op.bytesLess]
  | a :: s, b :: t, c :: u, h1, h2 => by
    simp only [Op.bytesLess, Bool.or_eq_true, Bool.and_eq_true, decide_eq_true_eq, beq_iff_eq] at h1 h2 ⊢
    rcases h1 with h1 | ⟨rfl, h1⟩
    · rcases h2 with h2 | ⟨rfl, h2⟩
      · left
        have h1' : a.toNat < b.toNat := h1
        have h2' : b.toNat < c.toNat := h2
        show a.toNat < c.toNat
        omega
      · exact .inl h1
    · rcases h2 with h2 | ⟨rfl, h2⟩
      · exact .inl h2
      · exact .inr ⟨rfl, less_trans s t u h1 h2⟩
theorem Compare_v (a b : ByteArray) : PC Try.prog 31 [.d (.str a), .d (.str b)] (.d (.int .i64 (cmT a b))) [] :=
  PC.of Try.func31 rfl rfl fun w X args h => by
    obtain ⟨c1, r1, rfl, q1, c2, r2, rfl, q2, rfl⟩ := h
    obtain ⟨rfl, -⟩ := rep_str.1 (rep_of_rep1 q1)
    obtain ⟨rfl, -⟩ := rep_str.1 (rep_of_rep1 q2)
    refine (Try.strings_Compare a b w).mono ?_
    rintro e w' ⟨rfl, rfl⟩
    have hr := cmL_rng a.data.toList b.data.toList
    have h1 : inR .i64 (Lib.compareBytes a.data.toList b.data.toList) := by
      unfold inR
      simp only [IntKind.min, IntKind.max, IntKind.bits, IntKind.signed, if_true]
      omega
    exact ⟨_, rfl, Ext.refl _, rep_int.2 ⟨rfl, h1⟩⟩
theorem setCmp_v (x : TTable) (s : ByteArray) : PC Try.prog 30 [.d x.D, .d (.str s)] (.d (.int .i64 (cmT x.fTag s))) [] := by
  have c1 := Compare_v x.fTag s
  refine pc_intro ttOk (by kernel_rfl) Try.func30 rfl (by kernel_rfl) (by kernel_rfl) (by kernel_rfl) (fun hw => ?_)
  (conv => whnf)
  (repeat' (first | (refine stg_ ?_) | (refine cla_ (c1) ?_) | (refine br_ (fun hbr => ?_) (fun hbr => ?_))))
  (refine RetOK.d rfl rfl ?_; conv => whnf)
theorem bsf_v (xs : List TTable) (s : ByteArray) (i0 : Nat) (hl : xs.length ≤ 1000) (h0 : i0 ≤ xs.length) (h1 : ∀ (t : Nat) (x : TTable), t < i0 → xs[t]? = some x → cmT x.fTag s < 0) (h2 : ∀ (t : Nat) (x : TTable), i0 ≤ t → xs[t]? = some x → ¬ cmT x.fTag s < 0)
    (fd : Bool) (hf1 : ∀ x, xs[i0]? = some x → fd = decide (cmT x.fTag s = 0)) (hf2 : xs.length ≤ i0 → fd = false) :
    PC Try.prog 29 [.d (.lst (xs.map TTable.D)), .d (.str s), .fn (.func 30) []] (.tup [.d (.int .i64 (i0 : Nat)), .d (.bool fd)]) [] := by
  have hL : (xs.map TTable.D).length = xs.length := List.length_map _
  have c1 := fun x => setCmp_v x s
  refine pc_intro ttOk (by kernel_rfl) Try.func29 rfl (by kernel_rfl) (by kernel_rfl) (by kernel_rfl) (fun hw => ?_)
  (conv => whnf)
  (repeat' (first | (refine stg_ ?_) | fail | (refine br_ (fun hbr => ?_) (fun hbr => ?_))))
  refine LoopW.go (α := Nat × Nat) (fun p => [(0, .d (.lst (xs.map TTable.D))), (1, .d (.str s)), (2, .fn (.func 30) []), (8, .d (.int .i64 xs.length)), (9, .d (.int .i64 (p.1 : Nat))), (10, .d (.int .i64 (p.2 : Nat)))]) (fun _ => [.gone])
    (fun p => p.1 ≤ i0 ∧ i0 ≤ p.2 ∧ p.2 ≤ xs.length) (fun p => p.2 - p.1) (0, xs.length) (Weak.cov ⟨rfl, rfl, rfl, by rw [← hL]; rfl, rfl, by rw [← hL]; rfl, trivial⟩ ⟨trivial, trivial⟩ rfl) ⟨Nat.zero_le _, h0, Nat.le_refl _⟩ ?_
  rintro ⟨i, j⟩ ⟨q1, q2, q3⟩
  dsimp only at q1 q2 q3 ⊢
  (conv => whnf)
  (repeat (refine stg_ ?_))
  (refine br_ (fun h3 => ?_) (fun h3 => ?_) <;> (repeat (refine stg_ ?_)))
  · refine ShW.at (q := 2) rfl (by omega) ?_
    (conv => whnf)
    obtain ⟨h, hh⟩ : ∃ h : Nat, h = (i + j) / 2 := ⟨_, rfl⟩
    have hhi : ((i : Int) + (j : Int)) / 2 = (h : Int) := by omega
    obtain ⟨x, hx⟩ := at_lt' (xs := xs) (k := h) (by omega)
    have hx' : (xs.map TTable.D)[(h : Int).toNat]? = some x.D := by rw [Int.toNat_natCast, List.getElem?_map, hx]; rfl
    have d1 := c1 x
    (repeat (refine stg_ ?_))
    rw [hhi]
    (repeat' (first | (refine stg_ ?_) | (refine cla_ (d1) ?_) | (refine IxW.at (by omega) hx' ?_; (conv => whnf)) | (refine br_ (fun hbr => ?_) (fun hbr => ?_))))
    · have hlt : h < i0 := by
        rcases Nat.lt_or_ge h i0 with q | q
        · exact q
        · exact absurd hbr (h2 h x q hx)
      refine NextW.go (h + 1, j) covT_ ⟨by dsimp only; omega, by dsimp only; omega, by dsimp only; omega⟩ (by dsimp only; omega)
    · have hge : i0 ≤ h := by
        rcases Nat.lt_or_ge h i0 with q | q
        · have := h1 h x q hx; omega
        · exact q
      refine NextW.go (i, h) covT_ ⟨by dsimp only; omega, by dsimp only; omega, by dsimp only; omega⟩ (by dsimp only; omega)
  · obtain rfl : i = i0 := by omega
    by_cases hlt : i < xs.length
    · obtain ⟨x, hx⟩ := at_lt' (xs := xs) (k := i) hlt
      have d1 := c1 x
      have hf := hf1 x hx
      (repeat' (first | (refine stg_ ?_) | (refine cla_ (d1) ?_) | (refine br_ (fun hbr => ?_) (fun hbr => ?_))))
      all_goals first | (exfalso; omega) | skip
      rw [hf]
      (refine RetOK.t rfl ?_; (repeat' ((conv => whnf); (first | done | (refine ⟨_, _, rfl, ⟨rfl, ?_⟩, ?_⟩) | fail))); (all_goals (conv => whnf)))
      all_goals rfl
    · have hf := hf2 (by omega)
      (repeat' (first | (refine stg_ ?_) | fail | (refine br_ (fun hbr => ?_) (fun hbr => ?_))))
      all_goals first | (exfalso; omega) | skip
      rw [hf]
      (refine RetOK.t rfl ?_; (repeat' ((conv => whnf); (first | done | (refine ⟨_, _, rfl, ⟨rfl, ?_⟩, ?_⟩) | fail))); (all_goals (conv => whnf)))
      all_goals rfl
def posT (s : ByteArray) : List TTable → Nat
  | [] => 0
  | x :: t => if cmT x.fTag s < 0 then posT s t + 1 else 0
theorem pos_le (s : ByteArray) : ∀ xs, posT s xs ≤ xs.length
  | [] => Nat.le_refl _
  | x :: t => by
    have := pos_le s t
    rw [posT, List.length_cons]; split <;> omega
theorem pos_lt (s : ByteArray) : ∀ (xs : List TTable) (t : Nat) (x : TTable), t < posT s xs → xs[t]? = some x → cmT x.fTag s < 0
  | [], t, x, h, _ => by simp [posT] at h
  | y :: r, t, x, h, hx => by
    rw [posT] at h
    split at h
    · rename_i h1
      cases t with
      | zero => obtain rfl : y = x := by simpa using hx
                exact h1
      | succ t => exact pos_lt s r t x (by omega) (by simpa using hx)
    · omega
theorem pos_at (s : ByteArray) : ∀ (xs : List TTable) (x : TTable), xs[posT s xs]? = some x → ¬ cmT x.fTag s < 0
  | [], x, h => by simp [posT] at h
  | y :: r, x, h => by
    rw [posT] at h
    split at h
    · exact pos_at s r x (by simpa using h)
    · rename_i h1
      obtain rfl : y = x := by simpa using h
      exact h1
theorem tb_less : ∀ (xs : List TTable) (o : Option TTable), tbGo o xs = true → ∀ (i j : Nat) (x y : TTable), i < j → xs[i]? = some x → xs[j]? = some y → Op.bytesLess x.fTag.toList y.fTag.toList = true
  | [], _, _, i, j, x, y, _, hx, _ => by simp at hx
  | z :: t, o, h, i, j, x, y, hij, hx, hy => by
    simp only [tbGo, Bool.and_eq_true] at h
    obtain ⟨_, _, h3⟩ := h
    obtain ⟨j, rfl⟩ : ∃ k, j = k + 1 := ⟨j - 1, by omega⟩
    have hy : t[j]? = some y := by simpa using hy
    cases i with
    | succ i => exact tb_less t _ h3 i j x y (by omega) (by simpa using hx) hy
    | zero =>
      obtain rfl : z = x := by simpa using hx
      cases t with
      | nil => simp at hy
      | cons q r =>
        have h4 := h3
        simp only [tbGo, ltT, Bool.and_eq_true] at h4
        cases j with
        | zero => obtain rfl : q = y := by simpa using hy
                  exact h4.2.1
        | succ j => exact less_trans _ _ _ h4.2.1 (tb_less (q :: r) _ h3 0 (j + 1) q y (by omega) rfl hy)
theorem bT (s : ByteArray) : s.data.toList = s.toList := (Go.ByteArray.toList_eq s).symm
theorem pos_gt {xs : List TTable} {s : ByteArray} (hV : vtB xs = true) {j : Nat} {y : TTable} (hj : posT s xs < j) (hy : xs[j]? = some y) : 0 < cmT y.fTag s := by
  simp only [vtB, ordT, Bool.and_eq_true, decide_eq_true_eq] at hV
  obtain ⟨x, hx⟩ := at_lt' (xs := xs) (k := posT s xs) (by have := (List.getElem?_eq_some_iff.1 hy).1; omega)
  have h1 := pos_at s xs x hx
  have h2 := tb_less xs none hV.1.2 _ _ x y hj hx hy
  rw [← bT, ← bT] at h2
  refine Int.lt_of_not_ge fun h3 => ?_
  rcases Int.lt_or_eq_of_le h3 with h4 | h4
  · exact h1 ((cmL_less _ _).2 (less_trans _ _ _ h2 ((cmL_less _ _).1 h4)))
  · have := (cmL_eq _ _).1 h4
    rw [this] at h2
    exact h1 ((cmL_less _ _).2 h2)
def fdT (s : ByteArray) (xs : List TTable) : Bool :=
  match xs[posT s xs]? with
  | some x => decide (cmT x.fTag s = 0)
  | none => false
theorem fd_lt {s : ByteArray} {xs : List TTable} (h : fdT s xs = true) : posT s xs < xs.length := by
  unfold fdT at h
  split at h
  · rename_i x hx; exact (List.getElem?_eq_some_iff.1 hx).1
  · cases h
def setL (x : TTable) (xs : List TTable) : List TTable := if fdT x.fTag xs = true then xs.set (posT x.fTag xs) x else insL (posT x.fTag xs) x xs
theorem setL_len (x : TTable) (xs : List TTable) : (setL x xs).length = xs.length + if fdT x.fTag xs = true then 0 else 1 := by
  unfold setL
  split
  · simp
  · rw [insL_len (pos_le _ _)]
theorem zL_app {α : Type} (f : α → Nat) (xs ys : List α) : zL f (xs ++ ys) = zL f xs + zL f ys := by simp [zL]; omega
theorem setL_eq (x : TTable) (xs : List TTable) : setL x xs = xs.take (posT x.fTag xs) ++ x :: xs.drop (posT x.fTag xs + if fdT x.fTag xs = true then 1 else 0) := by
  unfold setL
  split
  · rename_i h; rw [List.set_eq_take_append_cons_drop, if_pos (fd_lt h)]
  · rfl
theorem zL_take {α : Type} (f : α → Nat) (xs : List α) (k : Nat) : zL f (xs.take k) + zL f (xs.drop k) = zL f xs := by rw [← zL_app, List.take_append_drop]
theorem setL_z (x : TTable) (xs : List TTable) : zL zTable (setL x xs) ≤ zL zTable xs + zTable x + 1 := by
  rw [setL_eq, zL_app, show x :: xs.drop (posT x.fTag xs + if fdT x.fTag xs = true then 1 else 0) = [x] ++ xs.drop (posT x.fTag xs + if fdT x.fTag xs = true then 1 else 0) from rfl, zL_app]
  have h1 := zL_take zTable xs (posT x.fTag xs)
  have h2 : zL zTable [x] = zTable x + 1 := by simp [zL]; omega
  have h3 : zL zTable (xs.drop (posT x.fTag xs + if fdT x.fTag xs = true then 1 else 0)) ≤ zL zTable (xs.drop (posT x.fTag xs)) := by
    rw [← List.drop_drop]
    have := zL_take zTable (xs.drop (posT x.fTag xs)) (if fdT x.fTag xs = true then 1 else 0)
    omega
  omega
def seL (x : TTable) (xs : List TTable) (k : Nat) : List TTable :=
  if k ≤ posT x.fTag xs then xs.take k else xs.take (posT x.fTag xs) ++ x :: (xs.take k).drop (posT x.fTag xs + if fdT x.fTag xs = true then 1 else 0)
theorem seL_end (x : TTable) (xs : List TTable) (h : posT x.fTag xs < xs.length) : seL x xs xs.length = setL x xs := by
  rw [seL, if_neg (by omega), setL_eq, List.take_length]
theorem seL_last (x : TTable) (xs : List TTable) (h : posT x.fTag xs = xs.length) : seL x xs xs.length ++ [x] = setL x xs := by
  have hf : ¬ fdT x.fTag xs = true := fun q => by have := fd_lt q; omega
  rw [seL, if_pos (Nat.le_of_eq h.symm), setL_eq, h, if_neg hf, List.take_length, Nat.add_zero, List.drop_length]
theorem seL_lo {x : TTable} {xs : List TTable} {k : Nat} {y : TTable} (hy : xs[k]? = some y) (hk : k < posT x.fTag xs) : seL x xs (k + 1) = seL x xs k ++ [y] := by
  rw [seL, if_pos (by omega), seL, if_pos (by omega), take_snoc_get hy]
theorem seL_at {x : TTable} {xs : List TTable} {k : Nat} {y : TTable} (hy : xs[k]? = some y) (hk : k = posT x.fTag xs) : seL x xs (k + 1) = seL x xs k ++ x :: if fdT x.fTag xs = true then [] else [y] := by
  have hl := (List.getElem?_eq_some_iff.1 hy).1
  have hl2 : (xs.take k).length = k := by rw [List.length_take]; omega
  have hl3 : (xs.take k ++ [y]).length = k + 1 := by rw [List.length_append, hl2]; rfl
  have h1 : ¬ k + 1 ≤ posT x.fTag xs := by omega
  have h2 : k ≤ posT x.fTag xs := by omega
  have h3 : seL x xs k = xs.take k := if_pos h2
  have h4 : seL x xs (k + 1) = xs.take (posT x.fTag xs) ++ x :: (xs.take (k + 1)).drop (posT x.fTag xs + if fdT x.fTag xs = true then 1 else 0) := if_neg h1
  rw [h3, h4, ← hk, take_snoc_get hy]
  cases fdT x.fTag xs with
  | true => rw [if_pos rfl, if_pos rfl, List.drop_of_length_le (by omega)]
  | false => rw [if_neg (by simp), if_neg (by simp), Nat.add_zero, List.drop_left' hl2]
theorem seL_hi {x : TTable} {xs : List TTable} {k : Nat} {y : TTable} (hy : xs[k]? = some y) (hk : posT x.fTag xs < k) : seL x xs (k + 1) = seL x xs k ++ [y] := by
  have hl := (List.getElem?_eq_some_iff.1 hy).1
  have h1 : ¬ k + 1 ≤ posT x.fTag xs := by omega
  have h2 : ¬ k ≤ posT x.fTag xs := by omega
  have h3 : seL x xs k = xs.take (posT x.fTag xs) ++ x :: (xs.take k).drop (posT x.fTag xs + if fdT x.fTag xs = true then 1 else 0) := if_neg h2
  have h4 : seL x xs (k + 1) = xs.take (posT x.fTag xs) ++ x :: (xs.take (k + 1)).drop (posT x.fTag xs + if fdT x.fTag xs = true then 1 else 0) := if_neg h1
  have hd : (posT x.fTag xs + if fdT x.fTag xs = true then 1 else 0) ≤ (xs.take k).length := by rw [List.length_take]; split <;> omega
  rw [h3, h4, take_snoc_get hy, List.drop_append_of_le_length hd, List.append_assoc, List.cons_append]
theorem seL_len {x : TTable} {xs : List TTable} {k : Nat} (hk : k ≤ xs.length) : (seL x xs k).length ≤ k + 1 := by
  unfold seL
  split
  · rw [List.length_take]; omega
  · simp only [List.length_append, List.length_cons, List.length_take, List.length_drop]; omega
def StR (xs : List TTable) (x : TTable) (v : V) (bs : List Blk) : Prop :=
  if vtB xs = true ∧ tagB x.fTag = true then
    if vtB (setL x xs) = true then v = .tup [.own 1 0 (setL x xs).length, .d (.int .i64 0)] ∧ bs = [.arr 2 ((setL x xs).map TTable.D) true]
    else v = .tup [.nils, .d (.int .i64 5)] ∧ bs = []
  else v = .tup [.nils, .d (.int .i64 1)] ∧ bs = []
theorem st_cases (xs : List TTable) (x : TTable) : (∃ c : Int, StR xs x (.tup [.nils, .d (.int .i64 c)]) []) ∨ vtB (setL x xs) = true ∧ StR xs x (.tup [.own 1 0 (setL x xs).length, .d (.int .i64 0)]) [.arr 2 ((setL x xs).map TTable.D) true] := by
  unfold StR
  by_cases h1 : vtB xs = true ∧ tagB x.fTag = true
  · by_cases h2 : vtB (setL x xs) = true
    · right; refine ⟨h2, ?_⟩; rw [if_pos h1, if_pos h2]; exact ⟨rfl, rfl⟩
    · left; refine ⟨5, ?_⟩; rw [if_pos h1, if_neg h2]; exact ⟨rfl, rfl⟩
  · left; refine ⟨1, ?_⟩; rw [if_neg h1]; exact ⟨rfl, rfl⟩
theorem specSetTable_v (xs : List TTable) (x : TTable) (hz : zL zTable xs ≤ 1048576) (hzx : zTable x ≤ 1048576) {v : V} {bs : List Blk} (hres : StR xs x v bs) : PC Try.prog 14 [.d (.lst (xs.map TTable.D)), .d x.D] v bs := by
  unfold StR at hres
  have hL : (xs.map TTable.D).length = xs.length := List.length_map _
  have c1 := specValidTables_v xs hz
  have c2 := l31Tag_v x.fTag
  have c3 := specValidTables_w (setL x xs) (by have := setL_z x xs; omega)
  cases hV : vtB xs with
  | false =>
    rw [hV] at c1 hres
    rw [if_neg (by simp)] at hres
    obtain ⟨rfl, rfl⟩ := hres
    refine pc_intro ttOk (by kernel_rfl) Try.func14 rfl (by kernel_rfl) (by kernel_rfl) (by kernel_rfl) (fun hw => ?_)
    (conv => whnf)
    (repeat' (first | (refine stg_ ?_) | (refine cla_ (c1) ?_) | (refine cla_ (c2) ?_) | (refine br_ (fun hbr => ?_) (fun hbr => ?_))))
    all_goals first | (exfalso; simp_all; done) | skip
    all_goals (refine ⟨⟨[], trivial, by decide, ⟨_, rfl, rfl, ⟨_, _, rfl, rfl, ⟨_, _, rfl, ⟨rfl, ?_⟩, rfl⟩⟩⟩⟩⟩; (conv => whnf))
    all_goals rfl
  | true =>
  cases hT : tagB x.fTag with
  | false =>
    rw [hV] at c1 hres
    rw [hT] at c2 hres
    rw [if_neg (by simp)] at hres
    obtain ⟨rfl, rfl⟩ := hres
    refine pc_intro ttOk (by kernel_rfl) Try.func14 rfl (by kernel_rfl) (by kernel_rfl) (by kernel_rfl) (fun hw => ?_)
    (conv => whnf)
    (repeat' (first | (refine stg_ ?_) | (refine cla_ (c1) ?_) | (refine cla_ (c2) ?_) | (refine br_ (fun hbr => ?_) (fun hbr => ?_))))
    all_goals first | (exfalso; simp_all; done) | skip
    all_goals (refine ⟨⟨[], trivial, by decide, ⟨_, rfl, rfl, ⟨_, _, rfl, rfl, ⟨_, _, rfl, ⟨rfl, ?_⟩, rfl⟩⟩⟩⟩⟩; (conv => whnf))
    all_goals rfl
  | true =>
  rw [if_pos ⟨hV, hT⟩] at hres
  have hl16 := vt_len hV
  rw [hV] at c1
  rw [hT] at c2
  have hpl := pos_le x.fTag xs
  refine pc_intro ttOk (by kernel_rfl) Try.func14 rfl (by kernel_rfl) (by kernel_rfl) (by kernel_rfl) (fun hw => ?_)
  (conv => whnf)
  (repeat' (first | (refine stg_ ?_) | (refine cla_ (c1) ?_) | (refine cla_ (c2) ?_) | (refine br_ (fun hbr => ?_) (fun hbr => ?_))))
  all_goals first | (exfalso; simp_all; done) | skip
  refine LoopW.go (α := Nat) (fun k => [(3, .pB 1 [] 0), (0, .d (.lst (xs.map TTable.D))), (6, .own 2 0 (seL x xs k).length), (7, .d (.bool (decide (posT x.fTag xs < k)))), (8, .d (.int .i64 k))]) (fun k => [.gone, .box (.d x.D), .arr 2 ((seL x xs k).map TTable.D) true]) (fun k => k ≤ xs.length) (fun k => xs.length - k) 0 covT_ (by omega) (fun k hk => ?_)
  have hsn := seL_len (x := x) hk
  have hSl : ((seL x xs k).map TTable.D).length = (seL x xs k).length := List.length_map _
  rcases Nat.lt_or_ge (posT x.fTag xs) k with hgt | hle
  · rw [show decide (posT x.fTag xs < k) = true from decide_eq_true hgt]
    (conv => whnf)
    (refine br_ (fun h1 => ?_) (fun h1 => ?_) <;> (repeat (refine stg_ ?_)))
    · obtain ⟨y, hy⟩ := at_lt' (xs := xs) (k := k) (by omega)
      have q1 := pos_gt hV hgt hy
      have q2 : (y.fTag.toList == x.fTag.toList) = false := by
        refine Bool.eq_false_iff.2 fun q => ?_
        have := (cmL_eq y.fTag.data.toList x.fTag.data.toList).2 (by rw [bT, bT]; exact eq_of_beq q)
        unfold cmT at q1
        omega
      have hS := seL_hi hy hgt
      (repeat' (first | (refine stg_ ?_) | fail | (refine br_ (fun hbr => ?_) (fun hbr => ?_))))
      all_goals first | (exfalso; simp_all; done) | skip
      refine NextW.go (k + 1) (Weak.cov ⟨rfl, rfl, ?_, ?_, rfl, trivial⟩ ⟨trivial, rfl, ?_, trivial⟩ rfl) (by omega) (by omega)
      · rw [hS]; simp only [List.length_append]; rfl
      · exact congrArg (fun b => V.d (D.bool b)) (decide_eq_true (by omega)).symm
      · rw [hS]
        show Blk.arr 2 (((seL x xs k).map TTable.D).take _ ++ [y.D]) true = _
        rw [List.take_of_length_le (by omega), List.map_append]; rfl
    · obtain rfl : k = xs.length := by omega
      rw [seL_end x xs hgt] at *
      cases hO : vtB (setL x xs) with
      | false =>
        rw [hO] at c3 hres
        rw [if_neg (by simp)] at hres
        obtain ⟨rfl, rfl⟩ := hres
        (repeat' (first | (refine stg_ ?_) | (refine cla_ (c3) ?_) | (refine br_ (fun hbr => ?_) (fun hbr => ?_))))
        all_goals first | (exfalso; simp_all; done) | skip
        all_goals (refine ⟨⟨[], trivial, by decide, ⟨_, rfl, rfl, ⟨_, _, rfl, rfl, ⟨_, _, rfl, ⟨rfl, ?_⟩, rfl⟩⟩⟩⟩⟩; (conv => whnf))
        all_goals rfl
      | true =>
        rw [hO] at c3 hres
        rw [if_pos rfl] at hres
        obtain ⟨rfl, rfl⟩ := hres
        (repeat' (first | (refine stg_ ?_) | (refine cla_ (c3) ?_) | (refine br_ (fun hbr => ?_) (fun hbr => ?_))))
        all_goals first | (exfalso; simp_all; done) | skip
        all_goals (refine ⟨⟨[some 2], ⟨by decide, ?_, trivial, trivial⟩, by decide, ⟨_, rfl, rfl, ⟨_, _, rfl, ⟨by decide, ?_⟩, ⟨_, _, rfl, ⟨rfl, ?_⟩, rfl⟩⟩⟩⟩⟩)
        all_goals rfl
  · rw [show decide (posT x.fTag xs < k) = false from decide_eq_false (by omega)]
    (conv => whnf)
    (refine br_ (fun h1 => ?_) (fun h1 => ?_) <;> (repeat (refine stg_ ?_)))
    · obtain ⟨y, hy⟩ := at_lt' (xs := xs) (k := k) (by omega)
      rcases Nat.lt_or_ge k (posT x.fTag xs) with hlt | hge
      · have q1 := (cmL_less _ _).1 (pos_lt x.fTag xs k y hlt hy)
        rw [bT, bT] at q1
        have q2 : (y.fTag.toList == x.fTag.toList) = false := by
          refine Bool.eq_false_iff.2 fun q => ?_
          have h1 := (cmL_eq y.fTag.data.toList x.fTag.data.toList).2 (by rw [bT, bT]; exact eq_of_beq q)
          have h2 := pos_lt x.fTag xs k y hlt hy
          unfold cmT at h2
          omega
        have hS := seL_lo hy hlt
        (repeat' (first | (refine stg_ ?_) | fail | (refine br_ (fun hbr => ?_) (fun hbr => ?_))))
        all_goals first | (exfalso; simp_all; done) | skip
        refine NextW.go (k + 1) (Weak.cov ⟨rfl, rfl, ?_, ?_, rfl, trivial⟩ ⟨trivial, rfl, ?_, trivial⟩ rfl) (by omega) (by omega)
        · rw [hS]; simp only [List.length_append]; rfl
        · exact congrArg (fun b => V.d (D.bool b)) (decide_eq_false (by omega)).symm
        · rw [hS]
          show Blk.arr 2 (((seL x xs k).map TTable.D).take _ ++ [y.D]) true = _
          rw [List.take_of_length_le (by omega), List.map_append]; rfl
      · have hkp : k = posT x.fTag xs := by omega
        have h3 := pos_at x.fTag xs y (by rw [← hkp]; exact hy)
        have q1 : Op.bytesLess y.fTag.toList x.fTag.toList = false := by
          refine Bool.eq_false_iff.2 fun q => h3 ((cmL_less _ _).2 (by rw [bT, bT]; exact q))
        have hf : fdT x.fTag xs = (y.fTag.toList == x.fTag.toList) := by
          unfold fdT
          rw [← hkp, hy]
          show decide _ = _
          rw [Bool.eq_iff_iff, decide_eq_true_iff, beq_iff_eq, ← bT, ← bT]
          exact cmL_eq _ _
        have hS := seL_at hy hkp
        cases q2 : (y.fTag.toList == x.fTag.toList) with
        | true =>
          rw [q2] at hf
          rw [hf, if_pos rfl] at hS
          (repeat' (first | (refine stg_ ?_) | fail | (refine br_ (fun hbr => ?_) (fun hbr => ?_))))
          all_goals first | (exfalso; simp_all; done) | skip
          refine NextW.go (k + 1) (Weak.cov ⟨rfl, rfl, ?_, ?_, rfl, trivial⟩ ⟨trivial, rfl, ?_, trivial⟩ rfl) (by omega) (by omega)
          · rw [hS]; simp only [List.length_append]; rfl
          · exact congrArg (fun b => V.d (D.bool b)) (decide_eq_true (by omega)).symm
          · rw [hS]
            show Blk.arr 2 (((seL x xs k).map TTable.D).take _ ++ [x.D]) true = _
            rw [List.take_of_length_le (by omega), List.map_append]; rfl
        | false =>
          rw [q2] at hf
          rw [hf, if_neg (by simp)] at hS
          (repeat' (first | (refine stg_ ?_) | fail | (refine br_ (fun hbr => ?_) (fun hbr => ?_))))
          all_goals first | (exfalso; simp_all; done) | skip
          refine NextW.go (k + 1) (Weak.cov ⟨rfl, rfl, ?_, ?_, rfl, trivial⟩ ⟨trivial, rfl, ?_, trivial⟩ rfl) (by omega) (by omega)
          · rw [hS]; simp only [List.length_append]; rfl
          · exact congrArg (fun b => V.d (D.bool b)) (decide_eq_true (by omega)).symm
          · rw [hS]
            show Blk.arr 2 ((((seL x xs k).map TTable.D).take _ ++ [x.D]).take _ ++ [y.D]) true = _
            rw [List.take_of_length_le (show ((seL x xs k).map TTable.D).length ≤ _ by omega), List.take_of_length_le (by rw [List.length_append, hSl]; exact Nat.le_refl _), List.append_assoc, List.map_append]; rfl
    · obtain rfl : k = xs.length := by omega
      have hE := seL_last x xs (by omega)
      (repeat' (first | (refine stg_ ?_) | fail | (refine br_ (fun hbr => ?_) (fun hbr => ?_))))
      have hE1 : List.take (seL x xs xs.length).length ((seL x xs xs.length).map TTable.D) ++ [x.D] = (setL x xs).map TTable.D := by
        rw [List.take_of_length_le (by omega), ← hE, List.map_append]; rfl
      have hE2 : (seL x xs xs.length).length + [x.D].length = (setL x xs).length := by rw [← hE, List.length_append]; rfl
      rw [hE1, hE2]
      cases hO : vtB (setL x xs) with
      | false =>
        rw [hO] at c3 hres
        rw [if_neg (by simp)] at hres
        obtain ⟨rfl, rfl⟩ := hres
        (repeat' (first | (refine stg_ ?_) | (refine cla_ (c3) ?_) | (refine br_ (fun hbr => ?_) (fun hbr => ?_))))
        all_goals first | (exfalso; simp_all; done) | skip
        all_goals (refine ⟨⟨[], trivial, by decide, ⟨_, rfl, rfl, ⟨_, _, rfl, rfl, ⟨_, _, rfl, ⟨rfl, ?_⟩, rfl⟩⟩⟩⟩⟩; (conv => whnf))
        all_goals rfl
      | true =>
        rw [hO] at c3 hres
        rw [if_pos rfl] at hres
        obtain ⟨rfl, rfl⟩ := hres
        (repeat' (first | (refine stg_ ?_) | (refine cla_ (c3) ?_) | (refine br_ (fun hbr => ?_) (fun hbr => ?_))))
        all_goals first | (exfalso; simp_all; done) | skip
        all_goals (refine ⟨⟨[some 2], ⟨by decide, ?_, trivial, trivial⟩, by decide, ⟨_, rfl, rfl, ⟨_, _, rfl, ⟨by decide, ?_⟩, ⟨_, _, rfl, ⟨rfl, ?_⟩, rfl⟩⟩⟩⟩⟩)
        all_goals rfl
theorem SetTable_v (xs : List TTable) (x : TTable) (hz : zL zTable xs ≤ 1048576) (hzx : zTable x ≤ 1048576) {v : V} {bs : List Blk} (hres : StR xs x v bs) : PC Try.prog 16 [.d (.lst (xs.map TTable.D)), .d x.D] v bs := by
  unfold StR at hres
  have hL : (xs.map TTable.D).length = xs.length := List.length_map _
  have c1 := ValidTables_v xs hz
  have c2 := ValidTag_v x.fTag
  have c3 := ValidTables_w (setL x xs) (by have := setL_z x xs; omega)
  cases hV : vtB xs with
  | false =>
    rw [hV] at c1 hres
    rw [if_neg (by simp)] at hres
    obtain ⟨rfl, rfl⟩ := hres
    refine pc_intro ttOk (by kernel_rfl) Try.func16 rfl (by kernel_rfl) (by kernel_rfl) (by kernel_rfl) (fun hw => ?_)
    (conv => whnf)
    (repeat' (first | (refine stg_ ?_) | (refine cla_ (c1) ?_) | (refine cla_ (c2) ?_) | (refine br_ (fun hbr => ?_) (fun hbr => ?_))))
    all_goals first | (exfalso; simp_all; done) | skip
    all_goals (refine ⟨⟨[], trivial, by decide, ⟨_, rfl, rfl, ⟨_, _, rfl, rfl, ⟨_, _, rfl, ⟨rfl, ?_⟩, rfl⟩⟩⟩⟩⟩; (conv => whnf))
    all_goals rfl
  | true =>
  cases hT : tagB x.fTag with
  | false =>
    rw [hV] at c1 hres
    rw [hT] at c2 hres
    rw [if_neg (by simp)] at hres
    obtain ⟨rfl, rfl⟩ := hres
    refine pc_intro ttOk (by kernel_rfl) Try.func16 rfl (by kernel_rfl) (by kernel_rfl) (by kernel_rfl) (fun hw => ?_)
    (conv => whnf)
    (repeat' (first | (refine stg_ ?_) | (refine cla_ (c1) ?_) | (refine cla_ (c2) ?_) | (refine br_ (fun hbr => ?_) (fun hbr => ?_))))
    all_goals first | (exfalso; simp_all; done) | skip
    all_goals (refine ⟨⟨[], trivial, by decide, ⟨_, rfl, rfl, ⟨_, _, rfl, rfl, ⟨_, _, rfl, ⟨rfl, ?_⟩, rfl⟩⟩⟩⟩⟩; (conv => whnf))
    all_goals rfl
  | true =>
  rw [if_pos ⟨hV, hT⟩] at hres
  have hl16 := vt_len hV
  have hpl := pos_le x.fTag xs
  have c0 := cloneTable_v xs (by omega)
  have c4 := bsf_v xs x.fTag (posT x.fTag xs) (by omega) hpl (pos_lt x.fTag xs) (fun t y ht hy => by
    rcases Nat.lt_or_ge (posT x.fTag xs) t with h | h
    · have := pos_gt hV h hy; omega
    · obtain rfl : t = posT x.fTag xs := by omega
      exact pos_at x.fTag xs y hy) (fdT x.fTag xs) (fun y hy => by unfold fdT; rw [hy]) (fun h => Bool.eq_false_iff.2 fun q => by have := fd_lt q; omega)
  rw [hV] at c1
  rw [hT] at c2
  have hsl := setL_len x xs
  cases hF : fdT x.fTag xs with
  | true =>
    have hlt := fd_lt hF
    rw [hF] at c4 hsl
    rw [if_pos rfl] at hsl
    have hE : (xs.map TTable.D).set (posT x.fTag xs) x.D = (setL x xs).map TTable.D := by rw [setL, if_pos hF, List.map_set]
    refine pc_intro ttOk (by kernel_rfl) Try.func16 rfl (by kernel_rfl) (by kernel_rfl) (by kernel_rfl) (fun hw => ?_)
    (conv => whnf)
    (repeat' (first | (refine stg_ ?_) | (refine cla_ (c1) ?_) | (refine cla_ (c2) ?_) | (refine cla_ (c0) ?_) | (refine cla_ (c4) ?_) | (refine br_ (fun hbr => ?_) (fun hbr => ?_))))
    obtain ⟨y, hy⟩ := at_lt' (xs := xs) (k := posT x.fTag xs) hlt
    have hy2 : (xs.map TTable.D)[((posT x.fTag xs : Nat) : Int).toNat + 0]? = some y.D := by rw [Nat.add_zero, Int.toNat_natCast, List.getElem?_map, hy]; rfl
    refine EoW.at hy2 ?_
    (conv => whnf)
    (repeat' (first | (refine stg_ ?_) | fail | (refine br_ (fun hbr => ?_) (fun hbr => ?_))))
    have hE' : (xs.map TTable.D).set (((posT x.fTag xs : Nat) : Int).toNat + 0) x.D = (setL x xs).map TTable.D := hE
    rw [hE', show xs.length = (setL x xs).length from hsl.symm]
    cases hO : vtB (setL x xs) with
    | false =>
      rw [hO] at c3 hres
      rw [if_neg (by simp)] at hres
      obtain ⟨rfl, rfl⟩ := hres
      (repeat' (first | (refine stg_ ?_) | (refine cla_ (c3) ?_) | (refine br_ (fun hbr => ?_) (fun hbr => ?_))))
      all_goals first | (exfalso; simp_all; done) | skip
      all_goals (refine ⟨⟨[], trivial, by decide, ⟨_, rfl, rfl, ⟨_, _, rfl, rfl, ⟨_, _, rfl, ⟨rfl, ?_⟩, rfl⟩⟩⟩⟩⟩; (conv => whnf))
      all_goals rfl
    | true =>
      rw [hO] at c3 hres
      rw [if_pos rfl] at hres
      obtain ⟨rfl, rfl⟩ := hres
      (repeat' (first | (refine stg_ ?_) | (refine cla_ (c3) ?_) | (refine br_ (fun hbr => ?_) (fun hbr => ?_))))
      all_goals first | (exfalso; simp_all; done) | skip
      all_goals (refine ⟨⟨[some 2], ⟨by decide, ?_, trivial, trivial⟩, by decide, ⟨_, rfl, rfl, ⟨_, _, rfl, ⟨by decide, ?_⟩, ⟨_, _, rfl, ⟨rfl, ?_⟩, rfl⟩⟩⟩⟩⟩)
      all_goals rfl
  | false =>
    rw [hF] at c4 hsl
    rw [if_neg (by simp)] at hsl
    have hE : insL (posT x.fTag xs) x xs = setL x xs := by rw [setL, if_neg (by simp [hF])]
    refine pc_intro ttOk (by kernel_rfl) Try.func16 rfl (by kernel_rfl) (by kernel_rfl) (by kernel_rfl) (fun hw => ?_)
    (conv => whnf)
    (repeat' (first | (refine stg_ ?_) | (refine cla_ (c1) ?_) | (refine cla_ (c2) ?_) | (refine cla_ (c0) ?_) | (refine cla_ (c4) ?_) | (refine cli_ (xs := xs) (x := x) hpl (by omega) ?_) | (refine br_ (fun hbr => ?_) (fun hbr => ?_))))
    rw [hE, show xs.length + 1 = (setL x xs).length from hsl.symm]
    cases hO : vtB (setL x xs) with
    | false =>
      rw [hO] at c3 hres
      rw [if_neg (by simp)] at hres
      obtain ⟨rfl, rfl⟩ := hres
      (repeat' (first | (refine stg_ ?_) | (refine cla_ (c3) ?_) | (refine br_ (fun hbr => ?_) (fun hbr => ?_))))
      all_goals first | (exfalso; simp_all; done) | skip
      all_goals (refine ⟨⟨[], trivial, by decide, ⟨_, rfl, rfl, ⟨_, _, rfl, rfl, ⟨_, _, rfl, ⟨rfl, ?_⟩, rfl⟩⟩⟩⟩⟩; (conv => whnf))
      all_goals rfl
    | true =>
      rw [hO] at c3 hres
      rw [if_pos rfl] at hres
      obtain ⟨rfl, rfl⟩ := hres
      (repeat' (first | (refine stg_ ?_) | (refine cla_ (c3) ?_) | (refine br_ (fun hbr => ?_) (fun hbr => ?_))))
      all_goals first | (exfalso; simp_all; done) | skip
      all_goals (refine ⟨⟨[some 2], ⟨by decide, ?_, trivial, trivial⟩, by decide, ⟨_, rfl, rfl, ⟨_, _, rfl, ⟨by decide, ?_⟩, ⟨_, _, rfl, ⟨rfl, ?_⟩, rfl⟩⟩⟩⟩⟩)
      all_goals rfl
end Go.Proofs.Ytdeafbgnbgihgaa