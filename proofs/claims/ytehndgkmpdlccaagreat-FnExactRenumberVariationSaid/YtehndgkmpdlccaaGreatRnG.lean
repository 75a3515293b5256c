/- merged: several parts in one text. Leans on no more than they do. -/
import Derived.Test.YtehndgkmpdlccaaGreatVMRaw
import Derived.Test.YtehndgkmpdlccaaGreatShelf
import Derived.Test.YtehndgkmpdlccaaGreatVMTac
import Derived.Sort.Grow
set_option linter.unusedSimpArgs false
set_option linter.unusedVariables false
namespace Go.Proofs.YtehndgkmpdlccaaGreat
open Go.RowKit
theorem news_of {O : List Nat} {w : World} {b o : Nat} : ∀ (xs : List TAxis) (i : Nat), repDe O w (some ⟨b, o, none⟩) 5 (xs.map TAxis.D) i →
    ∃ news : List Value, news.length = xs.length * 5 ∧ (∀ j u, news[j]? = some u → w.cell? ⟨b, o + i * 5 + j, none⟩ = some u) ∧ (∀ u ∈ news, u.oneCell' = true) ∧
      ∀ (arr : Array Value) (k : Nat), (∀ j u, news[j]? = some u → arr[k * 5 + j]? = some u) → extDe O w arr 5 (xs.map TAxis.D) k
  | [], i, _ => ⟨[], rfl, (fun j u h => by simp at h), (fun u h => by simp at h), fun _ _ _ => trivial⟩
  | x :: xs, i, ⟨⟨b', o', ces, e, _, _, q1, q2, q3⟩, H⟩ => by
    cases e
    obtain ⟨news, h1, h2, h3, h4⟩ := news_of xs (i + 1) H
    have hl : ces.length = 5 := repD_len _ _ q3
    have hone : ∀ u ∈ ces, u.oneCell' = true := by
      obtain ⟨a1, b1, rfl, r1, a2, b2, rfl, r2, a3, b3, rfl, r3, a4, b4, rfl, r4, a5, b5, rfl, r5, rfl⟩ := q3
      obtain ⟨rfl, _⟩ := r1
      obtain ⟨rfl, _⟩ := r2
      obtain ⟨rfl, _⟩ := r3
      obtain ⟨rfl, _⟩ := r4
      obtain ⟨ad, cap, n, rfl, _⟩ := r5
      intro u hu
      simp only [List.cons_append, List.nil_append, List.append_nil, List.mem_cons, List.not_mem_nil, or_false] at hu
      rcases hu with rfl | rfl | rfl | rfl | rfl <;> rfl
    refine ⟨ces ++ news, by rw [List.length_append, hl, h1, List.length_cons]; omega, fun j u hj => ?_, fun u hu => ?_, fun arr k ha => ⟨⟨ces, rfl, fun j u hj => ha j u (by rw [List.getElem?_append_left ((List.getElem?_eq_some_iff.1 hj).1)]; exact hj), q3⟩, h4 arr (k + 1) fun j u hj => ?_⟩⟩
    · rw [List.getElem?_append] at hj
      split at hj
      · exact q1 j u hj
      · rename_i hge
        have := h2 _ u hj
        rw [hl] at this hge
        rwa [show o + (i + 1) * 5 + (j - 5) = o + i * 5 + j by omega] at this
    · rcases List.mem_append.1 hu with hu | hu
      · exact hone u hu
      · exact h3 u hu
    · have := ha (5 + j) u (by rw [List.getElem?_append_right (by omega), hl, show 5 + j - 5 = j by omega]; exact hj)
      rwa [show k * 5 + (5 + j) = (k + 1) * 5 + j by omega] at this
theorem FlW.nilL {n : Nat} {K K' : Prop} (H : K) : FlW (([] : List TAxis).map TAxis.D) n K K' := ⟨.inl ⟨by simp, H⟩⟩
theorem scE_d {h : List Blk} : ∀ {E : Env}, (∀ p ∈ E, ∃ y, p.2 = .d y) → scE h E = true
  | [], _ => rfl
  | (k, v) :: r, H => by
    obtain ⟨y, rfl⟩ := H (k, v) (by simp)
    rw [scE, scE_d fun p hp => H p (by simp [hp])]; rfl
theorem cloneAxis_v (xs : List TAxis) (hb : xs.length ≤ 1000000) : PC Tryz.prog 78 [.d (.lst (xs.map TAxis.D))] (.own 1 0 xs.length) [.arr 5 (xs.map TAxis.D) false] := by
  cases hxs : xs with
  | nil =>
    refine PC.weak (v := .own 1 0 0) (bs := [.arr 5 (([] : List TAxis).map TAxis.D) true]) ?_ (Weak.cut0 1 false rfl rfl)
    refine pc_intro ttOk (by kernel_rfl) Tryz.func78 rfl (by kernel_rfl) (by kernel_rfl) (by kernel_rfl) (fun hw => ?_)
    (conv => whnf)
    repeat' (first | ((with_reducible apply FlW.id); refine FlW.nilL ?_; (conv => whnf)) | (refine stg_ ?_) | (refine NlW.mk' (fun hnl => ?_) ?_))
    all_goals first | exact ⟨⟨[none], ⟨rfl, trivial⟩, by decide, rfl, by decide, rfl, rfl, rfl⟩⟩ | (refine ⟨⟨[some 1], ⟨by decide, rfl, trivial, trivial⟩, by decide, rfl, ?_⟩⟩; (conv => whnf); exact ⟨by decide, rfl⟩)
  | cons x0 t0 =>
    rw [← hxs]
    have hne : xs ≠ [] := by rw [hxs]; simp
    refine ⟨⟨_, Tryz.func78, rfl, rfl⟩, fun w X args hX1 hX2 h3 => ?_⟩
    obtain ⟨cv, cs, rfl, h4, rfl⟩ := h3
    obtain ⟨a, cap, n, e1, l1, l2, l3, l4⟩ : repD (MM.O [mX X]) w (.lst (xs.map TAxis.D)) [cv] := h4
    have hcv : cv = .slice a (xs.map TAxis.D).length cap := by injection e1
    subst hcv
    rw [O_X] at l4
    obtain ⟨⟨b, o, ces, ea, _, _, _, hn5, _⟩, _⟩ : (∃ b o ces, a = some ⟨b, o, none⟩ ∧ b ∉ X ∧ b < w.heap.size ∧ CellsAt w b (o + 0 * n) ces ∧ (TAxis.D x0).size = n ∧ repD X w x0.D ces) ∧ repDe X w a n (t0.map TAxis.D) (0 + 1) := by
      have := l4
      rw [hxs, List.map_cons] at this
      exact this
    have hn : n = 5 := hn5.symm
    subst hn ea
    obtain ⟨news, k1, k2, k3, k4⟩ := news_of xs 0 l4
    rw [List.length_map] at l1 ⊢
    refine (AnyE.slices_Clone Tryz.lCloneA Tryz.t48 (.agg #[.string .empty, .int .i64 0, .int .i64 0, .int .i64 0, .slice none 0 0]) 5 64 (by kernel_rfl) (by kernel_rfl) (by kernel_rfl) rfl (by kernel_rfl) (by omega) Tryz.sizeOf48 b o xs.length cap news w k1 (by unfold maxLen; omega) (by omega) (fun j u hj => by have := k2 j u hj; rwa [Nat.zero_mul, Nat.add_zero] at this) k3).mono ?_
    rintro en w' ⟨v', rfl, ⟨hnl, hown⟩, hv', hbel⟩
    rcases hown with ⟨q, _⟩ | ⟨g, cap', cur, rfl, hgB, hg, hc1, hc2, hc3, hc4⟩
    · exact absurd q hv'
    have hext : Ext w w' := hbel
    have hgX : g ∉ X := fun h => by have := hX2 g h; omega
    have hO : MM.O (mX X :: [some (g, [])]) = X ++ [g] := by rw [O_cons, mO_mX]; rfl
    have hcur : ∀ j u, news[j]? = some u → cur[0 * 5 + j]? = some u := fun j u hj => by
      rw [← hc4, List.getElem?_take] at hj
      split at hj
      · rw [Nat.zero_mul, Nat.zero_add, ← Array.getElem?_toList]; exact hj
      · cases hj
    have hx0 := k4 cur 0 hcur
    have hx1 : extDe (X ++ [g]) w' cur 5 (xs.map TAxis.D) 0 := extDe_mv (fun b' hb' hlt => ⟨fun hm => by
      rcases List.mem_append.1 hm with hm | hm
      · exact hb' hm
      · have := List.mem_singleton.1 hm; omega, hbel.block b' hlt⟩) _ _ hx0
    refine ⟨_, [some (g, [])], rfl, hext, {
      len := rfl
      blk := fun b' k m hk hm => ?_
      nd := ?_
      lo := fun b' k m hk hm hl x hx => ?_
      hi := fun x hx => ?_ }, ?_⟩
    · cases b' with
      | zero =>
        obtain rfl : Blk.gone = k := Option.some.inj hk
        trivial
      | succ b' =>
        cases b' with
        | zero =>
          obtain rfl : Blk.arr 5 (xs.map TAxis.D) false = k := Option.some.inj hk
          obtain rfl : some (g, []) = m := Option.some.inj hm
          refine ⟨cur, _, hg, by rw [List.length_map, hc3]; exact Nat.mul_le_mul_right 5 hc1, ?_⟩
          rw [if_neg (by simp)]
          exact ⟨rfl, by rw [hO]; exact hx1⟩
        | succ b' => simp at hk
    · rw [hO]
      exact List.nodup_append.2 ⟨hX1, by simp, fun x hx y hy e => by
        obtain rfl := List.mem_singleton.1 hy
        subst e
        exact hgX hx⟩
    · cases b' with
      | zero =>
        obtain rfl : Blk.gone = k := Option.some.inj hk
        cases hl
      | succ b' =>
        cases b' with
        | zero =>
          obtain rfl : some (g, []) = m := Option.some.inj hm
          obtain rfl : x = g := by simpa [mO] using hx
          exact hgB
        | succ b' => simp at hk
    · rw [hO] at hx
      rcases List.mem_append.1 hx with hx | hx
      · have := hX2 x hx; have := hbel.size; omega
      · obtain rfl := List.mem_singleton.1 hx
        exact lt_of_heap hg
    · refine rep_own.2 ⟨_, cap', rfl, hc1, hc2, (fun h => by cases h), .inr ⟨g, [], cur, _, rfl, ?_, hg, ?_⟩⟩
      · rw [Nat.zero_mul]
      · rw [Nat.zero_add]
        show cap' * 5 ≤ cur.size
        rw [hc3]; exact Nat.le_refl _
set_option maxRecDepth 100000 in
set_option maxHeartbeats 4000000 in
theorem copyAxes_v (xs : List TAxis) (hb : xs.length ≤ 1000) (hm : ∀ a ∈ xs, a.fMap.length ≤ 1000) : PC Tryz.prog 46 [.d (.lst (xs.map TAxis.D))] (.own 1 0 xs.length) [.arr 5 (xs.map TAxis.D) true] := by
  refine pc_intro ttOk (by kernel_rfl) Tryz.func46 rfl (by kernel_rfl) (by kernel_rfl) (by kernel_rfl) (fun hw => ?_)
  have c1 := cloneAxis_v xs (by omega)
  have hL : (xs.map TAxis.D).length = xs.length := List.length_map _
  (conv => whnf)
  (repeat (refine stg_ ?_))
  refine clX_ c1 (WeakX.pre (e0 := [(VS, .own 1 0 xs.length)]) (h0 := [.gone, .arr 5 (xs.map TAxis.D) false]) (Weak.cov ?_ ?_ ?_) (WeakX.rawA (b := 1) rfl rfl (fun f => WeakX.of (Weak.refl _ _) ⟨_, _, rfl, rfl, ?_⟩)))
  · (repeat' (first | exact trivial | with_reducible rfl | (refine ⟨?_, ?_⟩) | rfl))
  · (repeat' (first | exact trivial | with_reducible rfl | (refine ⟨?_, ?_⟩) | rfl))
  · rfl
  (conv => whnf)
  (repeat (refine stg_ ?_))
  refine LoopW.go (α := Nat) (fun i => [(3, .own 1 0 xs.length), (8, .d (.int .i64 xs.length)), (9, .d (.int .i64 i))]) (fun i => [.gone, .arr 5 (mixA f xs i) true, .keep (knA xs) f]) (fun i => i ≤ xs.length) (fun i => xs.length - i) 0 (Weak.cov ?_ ?_ ?_) (Nat.zero_le _) (fun i hi => ?_)
  · (repeat' (first | exact trivial | with_reducible rfl | (refine ⟨?_, ?_⟩) | rfl))
  · (repeat' (first | exact trivial | with_reducible rfl | (refine ⟨?_, ?_⟩) | rfl))
  · simp only [scE, scH, V.sc, scE_d (knA_d xs)]; rfl
  have hml := mixA_len f xs i
  (conv => whnf)
  (refine br_ (fun h1 => ?_) (fun h1 => ?_))
  · obtain ⟨a, ha⟩ := at_lt' (xs := xs) (k := i) (by omega)
    have hex := mixA_at (f := f) ha
    have c2 := cloneAxisPoint_v a.fMap (by have := hm a (List.mem_of_getElem? ha); omega)
    have hk : ∀ x, killE x (knA xs) = knA xs := fun x => killE_d x (knA_d xs)
    have hmD : (a.fMap.map TAxisPoint.D).length = a.fMap.length := List.length_map _
    (repeat (refine stg_ ?_))
    refine CallW.kno 2 i rfl (by first | exact knA_at ha | (simp only [hk]; exact knA_at ha)) rfl c2.fn ?_
    (refine cla_ (c2) ?_)
    repeat (first | ((with_reducible apply HlW.id); (refine HlW.at (fun g2 cap2 sz2 ty2 hcap2 => ?_)); (conv => whnf)) | (refine stg_ ?_))
    have hXi : ((mixA f xs i).set i (.st [.str a.fName, .int .i64 a.fMin, .int .i64 a.fDefault, .int .i64 a.fMax, .hole g2 a.fMap.length cap2]))[i]? = some (.st [.str a.fName, .int .i64 a.fMin, .int .i64 a.fDefault, .int .i64 a.fMax, .hole g2 a.fMap.length cap2]) := List.getElem?_set_self (by rw [mixA_len]; omega)
    have hfin : ((mixA f xs i).set i (.st [.str a.fName, .int .i64 a.fMin, .int .i64 a.fDefault, .int .i64 a.fMax, .hole g2 a.fMap.length cap2])).set i (.st [.str a.fName, .int .i64 a.fMin, .int .i64 a.fDefault, .int .i64 a.fMax, .lst (a.fMap.map TAxisPoint.D)]) = mixA f xs (i + 1) := by
      rw [List.set_set]
      exact mixA_set ha
    have hfb : Blk.arr 5 (((mixA f xs i).set i (.st [.str a.fName, .int .i64 a.fMin, .int .i64 a.fDefault, .int .i64 a.fMax, .hole g2 a.fMap.length cap2])).set i (.st [.str a.fName, .int .i64 a.fMin, .int .i64 a.fDefault, .int .i64 a.fMax, .lst (a.fMap.map TAxisPoint.D)])) true = Blk.arr 5 (mixA f xs (i + 1)) true := by rw [hfin]
    refine NextW.go (i + 1) (Weak.trans (Weak.cov (e' := [(3, .own 1 0 xs.length), (8, .d (.int .i64 xs.length)), (9, .d (.int .i64 ((i + 1 : Nat) : Int)))]) (h' := [.gone, .arr 5 ((mixA f xs i).set i (.st [.str a.fName, .int .i64 a.fMin, .int .i64 a.fDefault, .int .i64 a.fMax, .hole g2 a.fMap.length cap2])) true, .keep (knA xs) f, .arr 2 (a.fMap.map TAxisPoint.D) true, .pin 3 g2 sz2 ty2]) ?_ ?_ ?_)
      (Weak.trans (Weak.inn (b := 1) (c := 3) (j := 4) (k := i) (p := [4]) (o := 4) (U := fun u => .st [.str a.fName, .int .i64 a.fMin, .int .i64 a.fDefault, .int .i64 a.fMax, u]) rfl rfl (by decide) rfl hXi rfl (fun _ => rfl) rfl rfl hmD hcap2) (Weak.cov ?_ ?_ ?_))) (by omega) (by omega)
    · (repeat' (first | exact trivial | with_reducible rfl | (refine ⟨?_, ?_⟩) | rfl))
    · try simp only [hk]
      (repeat' (first | exact trivial | with_reducible rfl | (refine ⟨?_, ?_⟩) | rfl))
    · simp only [scE, scH, V.sc, scE_d (knA_d xs)]; rfl
    · (repeat' (first | exact trivial | with_reducible rfl | (refine ⟨?_, ?_⟩) | rfl))
    · have e1 : goneL [3] (dropK [3] [.gone, .arr 5 ((mixA f xs i).set i (.st [.str a.fName, .int .i64 a.fMin, .int .i64 a.fDefault, .int .i64 a.fMax, .hole g2 a.fMap.length cap2])) true, .keep (knA xs) f, .arr 2 (a.fMap.map TAxisPoint.D) true, .pin 3 g2 sz2 ty2]) = [.gone, .arr 5 ((mixA f xs i).set i (.st [.str a.fName, .int .i64 a.fMin, .int .i64 a.fDefault, .int .i64 a.fMax, .hole g2 a.fMap.length cap2])) true, .keep (knA xs) f, .gone, .gone] := by
        show [Blk.gone, Blk.arr 5 _ true, Blk.keep (killE 3 (knA xs)) f, Blk.gone, Blk.gone] = _
        rw [hk]
      rw [e1]
      (repeat' (first | exact trivial | with_reducible rfl | with_reducible exact hfb | (refine ⟨?_, ?_⟩) | exact hfb | rfl))
    · simp only [scE, scH, V.sc, scE_d (knA_d xs)]; rfl
  · obtain rfl : i = xs.length := by omega
    rw [mixA_all]
    (repeat' (first | (refine stg_ ?_) | fail | (refine br_ (fun hbr => ?_) (fun hbr => ?_))))
    (refine ⟨⟨[some 1], ⟨by decide, rfl, trivial, trivial⟩, by decide, rfl, ?_⟩⟩; (conv => whnf); exact ⟨by decide, rfl⟩)
structure PR (P : Program) (f : FuncId) (n : Nat) (xs : List D) (rest : List V) (m : Nat) (ys : List D) : Prop where
  fn : ∃ fn, P.funcs[f]? = some fn ∧ (fn.name == "runtime.NumGoroutine") = false ∧ fn.body.isNone = false
  len : ys.length = xs.length
  le : m ≤ xs.length
  run : ∀ (w : World) (g : Nat) (t : TypeId) (arr : Array Value) (cap : Nat) (F : List Nat) (args : List Value), w.heap[g]? = some (.cells arr t (0, 0)) → (g :: F).Nodup → (∀ x ∈ F, x < w.heap.size) →
    xs.length ≤ cap → cap ≤ maxLen → cap * n ≤ arr.size → ownDe w arr n xs 0 F → repT w [none] [.gone] rest args →
    Calls P f (.slice (some ⟨g, 0, none⟩) xs.length cap :: args).toArray w fun en w' => ∃ arr' F', en = .returned (.slice (some ⟨g, 0, none⟩) m cap) ∧ Kept w w' (g :: F) (g :: F') ∧
      w'.heap[g]? = some (.cells arr' t (0, 0)) ∧ arr'.size = arr.size ∧ ownDe w' arr' n ys 0 F'
  nil : xs = [] → ∀ (w : World) (a : Option Addr) (cap : Nat) (args : List Value), cap ≤ maxLen → (a = none → cap = 0) → repT w [none] [.gone] rest args →
    Calls P f (.slice a 0 cap :: args).toArray w fun en w' => en = .returned (.slice a 0 cap) ∧ Ext w w'
theorem PR.call {P : Program} {f : FuncId} {n n0 : Nat} {xs ys : List D} {rest : List V} {m : Nat} (pk : PR P f n xs rest m ys) (hn0 : xs ≠ [] → n0 = n) {b len : Nat} {e : Env} {h : List Blk} {K : V → Env → List Blk → Prop}
    (hb : h[b]? = some (.arr n0 xs true)) (hl : len = xs.length) (hb0 : Nat.ble 1 b = true) (hr : plains rest = true) (H : K (.own b 0 m) e (h.set b (.arr n0 ys true))) : CallM P f (.own b 0 len :: rest) e h K where
  fn := pk.fn
  run B X N M a w args R hargs := by
    obtain ⟨c0, args, rfl, h1, h2⟩ := hargs
    have h2' := plains_rep (w' := w) (M' := [none]) (h' := [.gone]) rest args hr h2
    have hb1 : 1 ≤ b := Nat.le_of_ble_eq_true hb0
    subst hl
    obtain ⟨ad, cap, rfl, k1, k2, k3, k4⟩ := rep_own.1 (rep_of_rep1 h1)
    by_cases hx : xs = []
    · have hy : ys = [] := List.eq_nil_of_length_eq_zero (by rw [pk.len, hx]; rfl)
      subst hx
      subst hy
      have hm : m = 0 := by have := pk.le; simpa using this
      subst hm
      refine (pk.nil rfl w ad cap args k2 k3 h2').mono ?_
      rintro en w' ⟨rfl, q2⟩
      rw [show h.set b (.arr n0 [] true) = h from set_self h b _ hb] at H
      have mv := q2.mv (M := M) (h := h) R.inv.hi
      exact ⟨.own b 0 0, _, e, h, M, rfl, H, R.step (R.ext.trans q2) (R.inv.ext q2) mv rfl rfl, rep_mv mv (.own b 0 0) _ trivial (rep_of_rep1 h1)⟩
    · obtain rfl := hn0 hx
      have hn : nOf h b = n0 := by simp [nOf, hb]
      have hc : cap ≠ 0 := fun q => hx (List.eq_nil_of_length_eq_zero (by omega))
      rcases k4 with k4 | ⟨g, F, arr, t, m1, m2, m3, m4⟩
      · exact absurd k4 hc
      · subst m2
        obtain ⟨arr0, t0, r1, r2, r3⟩ : ∃ arr t, w.heap[g]? = some (.cells arr t (0, 0)) ∧ xs.length * n0 ≤ arr.size ∧ (if true = true then ownDe w arr n0 xs 0 F else F = [] ∧ extDe M.O w arr n0 xs 0) := R.inv.blk b _ _ hb m1
        rw [m3] at r1
        cases r1
        rw [if_pos rfl] at r3
        have nd : (g :: F).Nodup := by
          have := mO_nodup R.inv m1
          exact this
        rw [hn, Nat.zero_mul]
        refine (pk.run w g t arr cap F args m3 nd (fun x hx => R.inv.hi x (mem_O m1 (by simp [mO, hx]))) k1 k2 (by rw [Nat.zero_add, hn] at m4; exact m4) r3 h2').mono ?_
        rintro en w' ⟨arr', F', rfl, q2, q3, q4, q5⟩
        have hxB : Ext B w' := by
          have hlo := R.inv.lo b _ _ hb m1 rfl
          refine Below.trans R.ext ⟨q2.os, q2.tape, q2.output, q2.size, fun k hk => q2.ch k (Nat.lt_of_lt_of_le hk R.base) (fun hm => ?_)⟩
          have := hlo k hm
          omega
        have hnf : nOf (h.set b (.arr n0 ys true)) b = n0 := by
          unfold nOf; rw [List.getElem?_set_self (List.getElem?_eq_some_iff.1 hb).1]
        obtain ⟨M', R', hM', _⟩ := R.reset (w' := w') hxB m1 (by omega) hb (.inl rfl) [] [] (by simp) (by simp) (by simp) (by simp) (m' := some (g, F')) q2.nd
          (fun x hx => (q2.sub x hx).imp id (fun q => .inr q)) q2.hi q2.size (fun x hx hxm => q2.ch x hx hxm) (k' := .arr n0 ys true) rfl
          (fun _ g1 F1 e1 => by
            cases e1
            refine ⟨⟨F', rfl⟩, by rw [hnf, hn], fun arr1 t1 hg1 => ?_⟩
            rw [m3] at hg1
            cases hg1
            exact ⟨arr', q3, q4⟩)
          (fun M' h' _ => ⟨arr', t, q3, by
            have : xs.length * n0 ≤ cap * n0 := Nat.mul_le_mul_right n0 k1
            rw [pk.len, q4]; rw [Nat.zero_add, hn] at m4; omega, by rw [if_pos rfl]; exact q5⟩)
        refine ⟨.own b 0 m, _, e, _, M', rfl, H, R', rep_own.2 ⟨_, cap, rfl, Nat.le_trans pk.le k1, k2, by simp, .inr ⟨g, F', arr', t, hM', ?_, q3, ?_⟩⟩⟩
        · rw [Nat.zero_mul]
        · rw [hnf, q4]; rw [hn] at m4; exact m4
structure DC where
  g : Int
  k : Option Addr × Nat × Nat
  m : Option Addr × Nat × Nat
  a : Int
instance : Inhabited DC := ⟨⟨0, (none, 0, 0), (none, 0, 0), 0⟩⟩
def DC.enc (x : DC) : List Value := [.int .i64 x.g, .slice x.k.1 x.k.2.1 x.k.2.2, .slice x.m.1 x.m.2.1 x.m.2.2, .int .i64 x.a]
theorem enc_len (x : DC) : (DC.enc x).length = 4 := rfl
theorem enc_one (x : DC) : ∀ v ∈ DC.enc x, v.oneCell' = true := fun v hv => by
  simp only [DC.enc, List.mem_cons, List.not_mem_nil, or_false] at hv
  rcases hv with rfl | rfl | rfl | rfl <;> rfl
def cmDC (x y : DC) : Int := if x.g < y.g then -1 else if y.g < x.g then 1 else 0
structure PL where
  d : TGlyphDelta
  F : List Nat
  c : DC
structure PLok (w : World) (p : PL) : Prop where
  own : ownD w p.d.D p.F p.c.enc
  g : p.c.g = p.d.fGlyph
theorem pl_of {w : World} {arr : Array Value} : ∀ (ds : List TGlyphDelta) (i : Nat) (F : List Nat), ownDe w arr 4 (ds.map TGlyphDelta.D) i F →
    ∃ ps : List PL, ps.map PL.d = ds ∧ ps.flatMap PL.F = F ∧ (∀ p ∈ ps, PLok w p) ∧ ∀ (j : Nat) (p : PL), ps[j]? = some p → ∀ (c : Nat) (v : Value), p.c.enc[c]? = some v → arr[(i + j) * 4 + c]? = some v
  | [], i, F, h => ⟨[], rfl, h.symm, by simp, fun j p h => by simp at h⟩
  | d :: ds, i, F, h => by
    obtain ⟨F1, F2, ces, rfl, -, h1, h2, h3⟩ := h
    obtain ⟨ps, p1, p2, p3, p4⟩ := pl_of ds (i + 1) F2 h3
    have h2' := h2
    obtain ⟨G1, G2, c1, c2, e1, e2, ⟨rfl, rfl, q1⟩, G3, G4, c3, c4, e3, e4, r1, G5, G6, c5, c6, e5, e6, r2, G7, G8, c7, c8, e7, e8, ⟨rfl, rfl, q2⟩, e9, e10⟩ := h2
    obtain ⟨a1, cap1, rfl, -⟩ := r1
    obtain ⟨a2, cap2, rfl, -⟩ := r2
    subst e10 e8 e6 e4
    have hE : ces = DC.enc ⟨d.fGlyph, (a1, (d.fKnots.map (D.int .i64)).length, cap1), (a2, (d.fMoves.map TPt.D).length, cap2), d.fAdvance⟩ := e2
    rw [hE] at h1 h2'
    refine ⟨⟨d, F1, ⟨d.fGlyph, (a1, (d.fKnots.map (D.int .i64)).length, cap1), (a2, (d.fMoves.map TPt.D).length, cap2), d.fAdvance⟩⟩ :: ps, by simp [p1], by simp [p2], ?_, ?_⟩
    · intro p hp
      rcases List.mem_cons.1 hp with rfl | hp
      · exact ⟨h2', rfl⟩
      · exact p3 p hp
    · intro j p hj c v hc
      cases j with
      | zero =>
        obtain rfl := Option.some.inj hj
        exact h1 c v hc
      | succ j =>
        have := p4 j p (by simpa using hj) c v hc
        rwa [show i + 1 + j = i + (j + 1) by omega] at this
theorem of_pl {w : World} {arr : Array Value} : ∀ (ps : List PL) (i : Nat), (∀ p ∈ ps, ownD w p.d.D p.F p.c.enc) → (∀ (j : Nat) (p : PL), ps[j]? = some p → ∀ (c : Nat) (v : Value), p.c.enc[c]? = some v → arr[(i + j) * 4 + c]? = some v) →
    ownDe w arr 4 (ps.map fun p => p.d.D) i (ps.flatMap PL.F)
  | [], i, _, _ => rfl
  | p :: ps, i, h1, h2 => by
    refine ⟨p.F, ps.flatMap PL.F, p.c.enc, by simp, rfl, fun c v hc => h2 0 p rfl c v hc, h1 p (by simp), of_pl ps (i + 1) (fun q hq => h1 q (by simp [hq])) fun j q hj c v hc => ?_⟩
    have := h2 (j + 1) q (by simpa using hj) c v hc
    rwa [show i + (j + 1) = i + 1 + j by omega] at this
theorem perm_lift {α β : Type} {f : α → β} : ∀ {l1 l2 : List β}, l1.Perm l2 → ∀ zs : List α, zs.map f = l2 → ∃ zs' : List α, List.Perm zs' zs ∧ zs'.map f = l1 := by
  intro l1 l2 h
  induction h with
  | nil =>
    intro zs hz
    exact ⟨[], by rw [List.map_eq_nil_iff.1 hz], rfl⟩
  | cons x _ ih =>
    intro zs hz
    obtain ⟨z, zs, rfl, rfl, h2⟩ := List.map_eq_cons_iff.1 hz
    obtain ⟨zs', q1, q2⟩ := ih zs h2
    exact ⟨z :: zs', q1.cons z, by simp [q2]⟩
  | swap x y l =>
    intro zs hz
    obtain ⟨z, zs, rfl, rfl, h2⟩ := List.map_eq_cons_iff.1 hz
    obtain ⟨u, zs, rfl, rfl, h3⟩ := List.map_eq_cons_iff.1 h2
    exact ⟨u :: z :: zs, List.Perm.swap z u zs, by simp [h3]⟩
  | trans _ _ ih1 ih2 =>
    intro zs hz
    obtain ⟨z1, q1, q2⟩ := ih2 zs hz
    obtain ⟨z2, q3, q4⟩ := ih1 z1 q2
    exact ⟨z2, q3.trans q1, q4⟩
theorem holds_pl {w : World} {g : Nat} {arr : Array Value} {t : TypeId} {ps : List PL} (hg : w.heap[g]? = some (.cells arr t (0, 0))) (h : ∀ (j : Nat) (p : PL), ps[j]? = some p → ∀ (c : Nat) (v : Value), p.c.enc[c]? = some v → arr[(0 + j) * 4 + c]? = some v) :
    Sort.HoldsK DC.enc 4 w g 0 (ps.map PL.c).toArray := by
  intro j hj
  have hj' : j < ps.length * 4 := by simpa using hj
  have hq : j / 4 < ps.length := by omega
  obtain ⟨p, hp⟩ := at_lt' (xs := ps) (k := j / 4) hq
  rw [Sort.get_flatK _ _ _ _ (by simpa using hj')]
  have hc : j % 4 < p.c.enc.length := by rw [enc_len]; omega
  have h1 := h (j / 4) p hp (j % 4) _ (List.getElem?_eq_getElem hc)
  have e : (0 + j / 4) * 4 + j % 4 = 0 + j := by omega
  rw [e] at h1
  have e2 : (ps.map PL.c).toArray[j / 4]! = p.c := by
    have h0 := (List.getElem?_eq_some_iff.1 hp).2
    simp [hq, h0]
  refine ⟨?_, by simp [World.frozen?, hg]⟩
  rw [World.cell?, hg, e2]
  simp only [Option.isSome_none, Bool.false_eq_true, if_false]
  rw [h1]
  congr 1
  exact (getElem!_pos p.c.enc (j % 4) hc).symm
theorem sorted_kept {w : World} {g : Nat} {arr : Array Value} {t : TypeId} {F : List Nat} {ps : List PL} (hg : w.heap[g]? = some (.cells arr t (0, 0))) (hl : ps.length * 4 ≤ arr.size) (hnd : (g :: F).Nodup) (hF : ∀ x ∈ F, x < w.heap.size) (hP : (ps.flatMap PL.F).Perm F) (hok : ∀ p ∈ ps, PLok w p) (n : Nat) (os : Array Obj) :
    ∃ arr' : Array Value, Kept w (sortWorldK DC.enc 4 w g 0 n (ps.map PL.c).toArray os) (g :: F) (g :: ps.flatMap PL.F) ∧ (sortWorldK DC.enc 4 w g 0 n (ps.map PL.c).toArray os).heap[g]? = some (.cells arr' t (0, 0)) ∧ arr'.size = arr.size ∧
      ownDe (sortWorldK DC.enc 4 w g 0 n (ps.map PL.c).toArray os) arr' 4 (ps.map fun p => p.d.D) 0 (ps.flatMap PL.F) := by
  have hlt := lt_of_heap hg
  have hdef : sortWorldK DC.enc 4 w g 0 n (ps.map PL.c).toArray os = Sort.grow (Sort.putRow id (Sort.ahead w n) g 0 (Sort.flatK DC.enc 4 (ps.map PL.c).toArray)) os := rfl
  rw [hdef]
  obtain ⟨fl, hfl⟩ : ∃ fl, fl = Sort.flatK DC.enc 4 (ps.map PL.c).toArray := ⟨_, rfl⟩
  rw [← hfl]
  have hfs : fl.size = ps.length * 4 := by rw [hfl]; simp
  have hsz : (Sort.putRow id (Sort.ahead w n) g 0 fl).heap.size = w.heap.size := by simp [Sort.putRow, Sort.mapBlock, Sort.ahead]
  have hget : ∀ x, x < w.heap.size → (Sort.grow (Sort.putRow id (Sort.ahead w n) g 0 fl) os).heap[x]? = (Sort.putRow id (Sort.ahead w n) g 0 fl).heap[x]? := fun x hx => by
    show (_ ++ os)[x]? = _
    rw [Array.getElem?_append_left (by rw [hsz]; exact hx)]
  have hme : (Sort.putRow id (Sort.ahead w n) g 0 fl).heap[g]? = some (.cells (Sort.putCells id 0 fl arr) t (0, 0)) := by
    simp [Sort.putRow, Sort.mapBlock, Sort.ahead, Array.getElem?_modify, hg, Sort.onCells]
  have hother : ∀ x, x < w.heap.size → x ≠ g → (Sort.grow (Sort.putRow id (Sort.ahead w n) g 0 fl) os).heap[x]? = w.heap[x]? := fun x hx hne => by
    rw [hget x hx]
    simp [Sort.putRow, Sort.mapBlock, Sort.ahead, Array.getElem?_modify, Ne.symm hne]
  have hPm : ∀ x, x ∈ ps.flatMap PL.F ↔ x ∈ F := fun x => hP.mem_iff
  refine ⟨Sort.putCells id 0 fl arr, ⟨rfl, rfl, rfl, ?_, fun x hx hm => ?_, ?_, fun x hx => .inl ?_, fun x hx => ?_⟩, by rw [hget g hlt, hme], by simp [Sort.putCells], ?_⟩
  · show _ ≤ (_ ++ os).size
    rw [Array.size_append, hsz]; omega
  · exact hother x hx (fun e => hm (by simp [e]))
  · exact (List.Perm.nodup_iff (hP.cons g)).2 hnd
  · rcases List.mem_cons.1 hx with rfl | hx
    · simp
    · exact List.mem_cons_of_mem _ ((hPm x).1 hx)
  · show _ < (_ ++ os).size
    rw [Array.size_append, hsz]
    rcases List.mem_cons.1 hx with rfl | hx
    · omega
    · have := hF x ((hPm x).1 hx); omega
  · refine of_pl ps 0 (fun p hp => ?_) (fun j p hj c v hc => ?_)
    · refine ownD_mv _ _ _ (fun b hb => hother b ?_ ?_) (hok p hp).own
      · exact hF b ((hPm b).1 (List.mem_flatMap.2 ⟨p, hp, hb⟩))
      · intro e
        subst e
        exact (List.nodup_cons.1 hnd).1 ((hPm b).1 (List.mem_flatMap.2 ⟨p, hp, hb⟩))
    · have hjl : j < ps.length := (List.getElem?_eq_some_iff.1 hj).1
      have hcl : c < 4 := by have := (List.getElem?_eq_some_iff.1 hc).1; rwa [enc_len] at this
      have hi : (0 + j) * 4 + c < arr.size := by omega
      have hi2 : (0 + j) * 4 + c < fl.size := by omega
      have e1 : fl[(0 + j) * 4 + c]! = v := by
        rw [hfl, Sort.get_flatK _ _ _ _ (by simp; omega)]
        have ed : ((0 + j) * 4 + c) / 4 = j := by omega
        have em : ((0 + j) * 4 + c) % 4 = c := by omega
        have e2 : (ps.map PL.c).toArray[j]! = p.c := by
          have h0 := (List.getElem?_eq_some_iff.1 hj).2
          simp [hjl, h0]
        rw [ed, em, e2]
        rw [getElem!_pos p.c.enc c (by rw [enc_len]; omega)]
        exact (List.getElem?_eq_some_iff.1 hc).2
      have ei : (0 + j) * 4 + c = j * 4 + c := by omega
      rw [ei] at hi hi2 e1 ⊢
      simp only [Sort.putCells, Array.getElem?_mapIdx, Array.getElem?_eq_getElem hi, Option.map_some]
      have e3 : fl[j * 4 + c] = v := by rw [← e1, getElem!_pos fl _ hi2]
      simp [hi2, e3]
theorem cmDC_lt (x y : DC) : ltOf cmDC x y = decide (x.g < y.g) := by
  unfold ltOf cmDC
  by_cases h1 : x.g < y.g
  · simp [h1]
  · by_cases h2 : y.g < x.g <;> simp [h1, h2]
theorem cmDC_swo : Sort.SWO (ltOf cmDC) where
  irrefl x := by rw [cmDC_lt]; simp
  trans x y z h1 h2 := by rw [cmDC_lt] at *; simp at *; omega
  ntrans x y z h1 h2 := by rw [cmDC_lt] at *; simp at *; omega
theorem cmI_eq (x y : DC) : Lib.compareInt x.g y.g = cmDC x y := rfl
set_option maxHeartbeats 1000000 in
theorem cmpD_c (x y : DC) (W : World) : Calls Tryz.prog 51 #[.agg x.enc.toArray, .agg y.enc.toArray] W fun e w' => e = .returned (.int .i64 (cmDC x y)) ∧ ∃ q os', w' = Sort.grow (W.drewN q) os' := by
  have hcon := fun W' => AnyG.cmp_Compare_int Tryz.lCmpI x.g y.g W'
  change ∀ W', Calls Tryz.prog 52 _ _ _ at hcon
  rw [← cmI_eq]
  generalize Lib.compareInt x.g y.g = r at hcon ⊢
  unfold DC.enc
  go_enter Tryz.func51, Tryz.ntmps51
  go_wp2_with (go_at_call 52; refine (hcon _).mono ?_; rintro e w' ⟨rfl, rfl⟩)
  go_ret
  exact ⟨rfl, 0, _, by rw [Sort.alloc_eq_grow, Sort.alloc_eq_grow, Sort.grow_grow]; rfl⟩
theorem sortD_k (ds zs : List TGlyphDelta) (hl : ds.length ≤ 1000000) (hp : zs.Perm ds) (hz : PwD zs) : PK Tryz.prog 50 4 (ds.map TGlyphDelta.D) [.d (.fnv (.func 51))] (.tup []) (zs.map TGlyphDelta.D) where
  fn := ⟨_, Tryz.func50, rfl, rfl⟩
  len := by simp [hp.length_eq]
  run := by
    intro w g t arr cap F args hg hnd hF hc1 hc2 hc3 ho ha
    obtain ⟨fv, cs, rfl, h1, rfl⟩ := ha
    have hfv : fv = .func (.func 51) #[] #[] := by
      have : [fv] = [_] := h1
      injection this
    subst hfv
    obtain ⟨ps, p1, p2, p3, p4⟩ := pl_of ds 0 F ho
    have hpl : ps.length = ds.length := by rw [← p1, List.length_map]
    have hH := holds_pl hg p4
    rw [List.length_map] at hc1 ⊢
    have hs : (ps.map PL.c).toArray.size = ds.length := by simp [hpl]
    have eg : ∀ args w, (callFunc 51 args).run Tryz.prog w = .ok (.enter 51 args) w := enters_of Tryz.func51 (by kernel_rfl) rfl
    have hcon := AnyQ.slices_SortFunc Tryz.lSortD 4 Tryz.isAgg55 Tryz.sizeOf55 DC.enc enc_len enc_one cmDC cmDC_swo 51 #[] g 0 cap (ps.map PL.c).toArray w eg (fun _ _ _ _ x y => cmpD_c x y _) hH (lt_of_heap hg) (by rw [hs]; omega)
    rw [hs] at hcon
    refine hcon.mono ?_
    rintro en w' ⟨rfl, d', n, os, q1, q2, rfl⟩
    -- what lies there
    obtain ⟨l', rfl⟩ : ∃ l', d' = List.toArray l' := ⟨d'.toList, by simp⟩
    have hperm : l'.Perm (ps.map PL.c) := by
      have := q1.2.2
      have e1 : l'.length = ds.length := by simpa [hpl] using q1.1
      simpa [← e1, hpl, Array.extract_eq_self_of_le, hs] using this
    obtain ⟨qs, r1, rfl⟩ := perm_lift hperm ps rfl
    have hql : qs.length = ds.length := by rw [r1.length_eq, hpl]
    have hok : ∀ p ∈ qs, PLok w p := fun p hp => p3 p (r1.mem_iff.1 hp)
    have hqz : qs.map PL.d = zs := by
      refine pwD_eq ?_ ?_ hz
      · exact (r1.map PL.d).trans (by rw [p1]; exact hp.symm)
      · have hne : zs.Pairwise fun a b => a.fGlyph ≠ b.fGlyph := hz.imp fun h => by omega
        have hne2 : (qs.map PL.d).Pairwise fun a b => a.fGlyph ≠ b.fGlyph := by
          have hpm : (qs.map PL.d).Perm zs := (r1.map PL.d).trans (by rw [p1]; exact hp.symm)
          exact (hpm.pairwise_iff (fun h => Ne.symm h)).2 hne
        rw [PwD, List.pairwise_map]
        rw [List.pairwise_map] at hne2
        rw [List.pairwise_iff_getElem] at hne2 ⊢
        intro i j hi hj hij
        have h2 := q2 i j (Nat.zero_le _) hij (by omega)
        rw [cmDC_lt] at h2
        have ei : ((qs.map PL.c).toArray)[i]! = qs[i].c := by simp [hi]
        have ej : ((qs.map PL.c).toArray)[j]! = qs[j].c := by simp [hj]
        rw [ei, ej, (hok qs[i] (List.getElem_mem hi)).g, (hok qs[j] (List.getElem_mem hj)).g] at h2
        have h3 := hne2 i j hi hj hij
        have h4 : ¬ qs[j].d.fGlyph < qs[i].d.fGlyph := by simpa using h2
        omega
    obtain ⟨arr', k1, k2, k3, k4⟩ := sorted_kept (ps := qs) hg (by
      have := Nat.mul_le_mul_right 4 hc1
      omega) hnd hF (by
      rw [← p2]
      exact List.Perm.flatMap_right _ r1) hok n os
    refine ⟨_, arr', qs.flatMap PL.F, rfl, ⟨[], rfl, rfl⟩, k1, k2, k3, ?_⟩
    rw [← hqz, List.map_map]
    exact k4
  nil := by
    intro hx w a cap args h1 h2 ha
    obtain ⟨fv, cs, rfl, q1, rfl⟩ := ha
    refine (AnyF.slices_SortFunc_none { Tryz.lSortD with } a cap fv w).mono ?_
    rintro en w' ⟨rfl, rfl⟩
    exact ⟨_, rfl, ⟨[], rfl, rfl⟩, Ext.refl _⟩
theorem rep_fn2 {w : World} {M : MM} {h : List Blk} {x : V} {f : Fn} {cv : Value} (H : rep w M h (.tup [x, .fn f []]) cv) : rep w M h (.tup [x, .d (.fnv f)]) cv := by
  obtain ⟨cvs, rfl, c, cs, rfl, h1, c2, cs2, rfl, h2, h3⟩ := H
  refine ⟨_, rfl, c, _, rfl, h1, c2, cs2, rfl, ?_, h3⟩
  obtain ⟨cvs', e, hk⟩ : ∃ cvs' : List Value, [c2] = [.func f #[] cvs'.toArray] ∧ repK w M h [] cvs' := h2
  obtain rfl : cvs' = [] := hk
  show repD M.O w (.fnv f) [c2]
  exact e
theorem Weak.slotR {e : Env} {h : List Blk} (k : Nat) {v v' : V} (hk : gt e k = v) (H : ∀ w M h cv, rep w M h v cv → rep w M h v' cv) : Weak e h ((k, v') :: e) h := fun B X N M a w R => by
  have hr := R.env k
  rw [hk] at hr
  exact ⟨M, R.know (H _ _ _ _ hr)⟩
theorem IxW.mapZ {α : Type} {f : α → D} {i : Int} {ys : List α} {K : D → Prop} {y : α} (h0 : 0 ≤ i) (hy : ys[i.toNat]? = some y) (H : K (f y)) : IxW i (ys.map f) K := ⟨f y, h0, by simp [hy], H⟩
def trN10 : OT := .q 0 (.q 1 (.q 2 (.q 3 (.q 4 (.q 5 (.q 6 (.q 7 (.q 8 (.q 10 (.q 11 (.q 13 (.q 14 (.alt 9 (.alt 12 (.alt 15 (.alt 16 (.alt 17 (.q 18 (.alt 19 .done .nil)) .nil) .nil) .nil) .nil) .nil)))))))))))))
set_option maxRecDepth 100000 in
set_option maxHeartbeats 8000000 in
theorem renumberVariation_v (v : TVariation) (to : List Int) (hw1 : wfB v = true) (hw2 : nuB to = true) : PC Tryz.prog 24 [.d v.D, .d (.lst (to.map (D.int .i64)))] (.st [.own 1 0 v.fAxes.length, .own 2 0 v.fMasters.length]) [.arr 5 (v.fAxes.map TAxis.D) true, .arr 2 ((v.fMasters.map (nuM to)).map TMaster.D) true] := by
  refine pc_intro ttOk (by kernel_rfl) Tryz.func24 rfl (by kernel_rfl) (by kernel_rfl) (by kernel_rfl) (fun hw => ?_)
  have hto := nu_in hw2
  have hwf := hw1
  simp only [wfB, Bool.and_eq_true, decide_eq_true_eq, List.all_eq_true] at hwf
  obtain ⟨hax, hm8, hma⟩ := hwf
  have hax3 : v.fAxes.length ≤ 3 := by
    have := hax
    simp only [axsB, Bool.and_eq_true, decide_eq_true_eq] at this
    exact this.1
  have c1 := copyAxes_v v.fAxes (by omega) (fun a ha => by have := axs_ml hax a ha; omega)
  have hLm : (v.fMasters.map TMaster.D).length = v.fMasters.length := List.length_map _
  have hLt : (to.map (D.int .i64)).length = to.length := List.length_map _
  (conv => whnf)
  repeat' (first | ((fail_if_success (with_reducible apply RegD.id)); (refine stg_ ?_)) | (refine cla_ (c1) ?_))
  refine LoopW.go (α := Nat) (fun k => [(1, .d (.lst (to.map (D.int .i64)))), (2, .pB 1 [] 0), (4, .pB 2 [] 0), (5, .pB 4 [] 0), (16, .d (.lst (v.fMasters.map TMaster.D))), (17, .d (.int .i64 (v.fMasters.map TMaster.D).length)), (18, .d (.int .i64 k))]) (fun k => [.gone, .box (.d v.D), .box (.st [.nils, .nils]), .arr 5 (v.fAxes.map TAxis.D) true, .box (.st [.own 3 0 v.fAxes.length, .own 5 0 k]), .arr 2 (((v.fMasters.take k).map (nuM to)).map TMaster.D) true]) (fun k => k ≤ v.fMasters.length) (fun k => v.fMasters.length - k) 0 (Weak.trans (Weak.adoptM 4 [.own 3 0 v.fAxes.length] [] rfl rfl 2 true) (Weak.cov ?_ ?_ ?_)) (Nat.zero_le _) (fun k hk => ?_)
  · (repeat' (first | exact trivial | with_reducible rfl | (refine ⟨?_, ?_⟩) | rfl))
  · (repeat' (first | exact trivial | with_reducible rfl | (refine ⟨?_, ?_⟩) | rfl))
  · rfl
  have hlk : (((v.fMasters.take k).map (nuM to)).map TMaster.D).length = k := by simp; omega
  (conv => whnf)
  (refine br_ (fun h1 => ?_) (fun h1 => ?_))
  rotate_left
  · obtain rfl : k = v.fMasters.length := by omega
    rw [List.take_length]
    (repeat' (first | (refine stg_ ?_) | fail | (refine br_ (fun hbr => ?_) (fun hbr => ?_))))
    refine ⟨⟨[some 3, some 5], ⟨by decide, rfl, trivial, by decide, rfl, trivial, trivial⟩, by decide, ?_⟩⟩
    exact ⟨rfl, _, rfl, by (repeat' (first | ((conv => whnf); done) | ((conv => whnf); (first | (exact ⟨by decide, rfl⟩) | (exact ⟨rfl, rfl⟩) | (refine ⟨_, _, rfl, ?_, ?_⟩) | (refine ⟨_, rfl, ?_⟩) | rfl))))⟩
  obtain ⟨m, hm⟩ := at_lt' (xs := v.fMasters) (k := k) (by omega)
  have hem : (v.fMasters.map TMaster.D)[k]? = some m.D := by rw [List.getElem?_map, hm]; rfl
  have hmB := hma m (List.mem_of_getElem? hm)
  have hkm : k < v.fMasters.length := (List.getElem?_eq_some_iff.1 hm).1
  simp only [maB, Bool.and_eq_true, decide_eq_true_eq] at hmB
  obtain ⟨hm1, hm2, hm3, hm4⟩ := hmB
  have c2 := clonePeak_v m.fPeaks (by omega)
  have hdg := dsG_all hm4
  have hLd : (m.fDeltas.map TGlyphDelta.D).length = m.fDeltas.length := List.length_map _
  repeat' (first | ((fail_if_success (with_reducible apply RegD.id)); (refine stg_ ?_)) | (refine cla_ (c2) ?_))
  refine LoopW.go (α := Nat) (fun j => [(1, .d (.lst (to.map (D.int .i64)))), (2, .pB 1 [] 0), (4, .pB 2 [] 0), (5, .pB 4 [] 0), (16, .d (.lst (v.fMasters.map TMaster.D))), (17, .d (.int .i64 (v.fMasters.map TMaster.D).length)), (18, .d (.int .i64 k)), (8, .pB 8 [] 0), (27, .d (.lst (m.fDeltas.map TGlyphDelta.D))), (28, .d (.int .i64 (m.fDeltas.map TGlyphDelta.D).length)), (29, .d (.int .i64 j))])
    (fun j => [.gone, .box (.d v.D), .box (.st [.nils, .nils]), .arr 5 (v.fAxes.map TAxis.D) true, .box (.st [.own 3 0 v.fAxes.length, .own 5 0 k]), .arr 2 (((v.fMasters.take k).map (nuM to)).map TMaster.D) true, .gone, .arr 3 (m.fPeaks.map TPeak.D) true, .box (.st [.own 7 0 m.fPeaks.length, .own 9 0 (kpD to (m.fDeltas.take j)).length]), .arr 4 ((kpD to (m.fDeltas.take j)).map TGlyphDelta.D) true])
    (fun j => j ≤ m.fDeltas.length) (fun j => m.fDeltas.length - j) 0 (Weak.trans (Weak.adoptM 8 [.own 7 0 m.fPeaks.length] [] rfl rfl 4 true) (Weak.cov ?_ ?_ ?_)) (Nat.zero_le _) (fun j hj => ?_)
  · (repeat' (first | exact trivial | with_reducible rfl | (refine ⟨?_, ?_⟩) | rfl))
  · (repeat' (first | exact trivial | with_reducible rfl | (refine ⟨?_, ?_⟩) | rfl))
  · rfl
  have hkl := kpD_len to (m.fDeltas.take j)
  rw [List.length_take] at hkl
  have hKl : ((kpD to (m.fDeltas.take j)).map TGlyphDelta.D).length = (kpD to (m.fDeltas.take j)).length := List.length_map _
  (conv => whnf)
  (refine br_ (fun h2 => ?_) (fun h2 => ?_))
  · obtain ⟨d, hd⟩ := at_lt' (xs := m.fDeltas) (k := j) (by omega)
    have hed : (m.fDeltas.map TGlyphDelta.D)[j]? = some d.D := by rw [List.getElem?_map, hd]; rfl
    have hgB := hdg d (List.mem_of_getElem? hd)
    simp only [gdB, inB, Bool.and_eq_true, decide_eq_true_eq] at hgB
    have hk7 := nu_kn_len hgB.2.1
    have hk8 := hgB.2.2.1
    have hkL : (d.fKnots.map (D.int .i64)).length = d.fKnots.length := List.length_map _
    have hkM : (d.fMoves.map TPt.D).length = d.fMoves.length := List.length_map _
    obtain ⟨x, hx⟩ := at_lt' (xs := to) (k := d.fGlyph.toNat) (by rw [hto.l]; omega)
    have htg : tgD to d = x := by rw [tgD, hx]; rfl
    have hex : (to.map (D.int .i64))[d.fGlyph.toNat]? = some (.int .i64 x) := by rw [List.getElem?_map, hx]; rfl
    have hsn := kpD_snoc (to := to) hd
    rw [htg] at hsn
    have c3 := cloneI_v d.fKnots (by omega)
    have c4 := clonePt_v d.fMoves (by omega)
    repeat (first | ((with_reducible apply IxW.id); refine IxW.mapZ (by omega) hx ?_; (conv => whnf)) | ((fail_if_success (with_reducible apply RegD.id)); (refine stg_ ?_)))
    refine br_ (fun hbr => ?_) (fun hbr => ?_)
    rotate_left
    · rw [if_neg (by omega), List.append_nil] at hsn
      (repeat (refine stg_ ?_))
      refine NextW.go (j + 1) (Weak.cov ?_ ?_ ?_) (by omega) (by omega)
      · (repeat' (first | exact trivial | with_reducible rfl | (refine ⟨?_, ?_⟩) | rfl))
      · rw [hsn]
        (repeat' (first | exact trivial | with_reducible rfl | (refine ⟨?_, ?_⟩) | rfl))
      · rfl
    rw [if_pos hbr] at hsn
    have hap : Blk.arr 4 (((kpD to (m.fDeltas.take j)).map TGlyphDelta.D).take (kpD to (m.fDeltas.take j)).length ++ [(nuE to d).D]) true = Blk.arr 4 ((kpD to (m.fDeltas.take (j + 1))).map TGlyphDelta.D) true := by
      rw [hsn, List.take_of_length_le (by omega), List.map_append]; rfl
    have hln : (kpD to (m.fDeltas.take (j + 1))).length = (kpD to (m.fDeltas.take j)).length + 1 := by rw [hsn]; simp
    refine RegD.cutT [(1, .d (.lst (to.map (D.int .i64)))), (2, .pB 1 [] 0), (4, .pB 2 [] 0), (5, .pB 4 [] 0), (16, .d (.lst (v.fMasters.map TMaster.D))), (17, .d (.int .i64 (v.fMasters.map TMaster.D).length)), (18, .d (.int .i64 k)), (8, .pB 8 [] 0), (27, .d (.lst (m.fDeltas.map TGlyphDelta.D))), (28, .d (.int .i64 (m.fDeltas.map TGlyphDelta.D).length)), (29, .d (.int .i64 j))] [.gone, .box (.d v.D), .box (.st [.nils, .nils]), .arr 5 (v.fAxes.map TAxis.D) true, .box (.st [.own 3 0 v.fAxes.length, .own 5 0 k]), .arr 2 (((v.fMasters.take k).map (nuM to)).map TMaster.D) true, .gone, .arr 3 (m.fPeaks.map TPeak.D) true, .box (.st [.own 7 0 m.fPeaks.length, .own 9 0 (kpD to (m.fDeltas.take (j + 1))).length]), .arr 4 ((kpD to (m.fDeltas.take (j + 1))).map TGlyphDelta.D) true] trN10 (by kernel_rfl) ?_ ?_
    · (conv => whnf)
      rw [hln, ← hap, show nuE to d = ⟨x, d.fKnots, d.fMoves, d.fAdvance⟩ by rw [nuE, htg]]
      repeat' (first | ((with_reducible apply IxW.id); refine IxW.mapZ (by omega) hx ?_; (conv => whnf)) | (refine stg_ ?_) | (refine cla_ (c3) ?_) | (refine cla_ (c4) ?_) | (refine And.intro ?_ ?_ <;> (conv => whnf)))
      all_goals (refine Weak.cov ?_ ?_ ?_; (focus (repeat' (first | exact trivial | with_reducible rfl | (refine ⟨?_, ?_⟩) | rfl))); (focus (repeat' (first | exact trivial | with_reducible rfl | (refine ⟨?_, ?_⟩) | rfl))); (focus rfl))
    (conv => whnf)
    (repeat (refine stg_ ?_))
    exact NextW.go (j + 1) covT_ (by omega) (by omega)
  · obtain rfl : j = m.fDeltas.length := by omega
    rw [List.take_length] at hkl hKl ⊢
    have hne := kpD_ne hto hm4
    have c5 := sortD_k (kpD to m.fDeltas) (isD (kpD to m.fDeltas)) (by omega) (isD_perm _) (isD_pw hne)
    have hIl : ((isD (kpD to m.fDeltas)).map TGlyphDelta.D).length = (kpD to m.fDeltas).length := by rw [List.length_map, isD_len]
    have hnM : nuM to m = ⟨m.fPeaks, isD (kpD to m.fDeltas)⟩ := rfl
    generalize isD (kpD to m.fDeltas) = Z at c5 hIl hnM
    have hlm : (((v.fMasters.take k).map (nuM to)).map TMaster.D).take k ++ [D.st [.lst (m.fPeaks.map TPeak.D), .lst (Z.map TGlyphDelta.D)]] = ((v.fMasters.take (k + 1)).map (nuM to)).map TMaster.D := by
      rw [List.take_of_length_le (by omega), take_snoc_get hm, List.map_append, List.map_append]
      show _ = _ ++ [(nuM to m).D]
      rw [hnM]; rfl
    have hap : Blk.arr 2 ((((v.fMasters.take k).map (nuM to)).map TMaster.D).take k ++ [D.st [.lst (m.fPeaks.map TPeak.D), .lst (Z.map TGlyphDelta.D)]]) true = Blk.arr 2 (((v.fMasters.take (k + 1)).map (nuM to)).map TMaster.D) true := by rw [hlm]
    generalize hKK : kpD to m.fDeltas = KK at c5 hkl hKl hIl hnM ⊢
    generalize hRK : ((v.fMasters.take k).map (nuM to)).map TMaster.D = RK at hlk hlm hap ⊢
    generalize hRW : ((v.fMasters.take (k + 1)).map (nuM to)).map TMaster.D = RW at hlm hap
    refine CallW.pre c5.fn (WeakX.pre (e0 := (VS, .tup [.own 9 0 KK.length, .fn (.func 51) []]) :: [(1, .d (.lst (to.map (D.int .i64)))), (2, .pB 1 [] 0), (4, .pB 2 [] 0), (5, .pB 4 [] 0), (16, .d (.lst (v.fMasters.map TMaster.D))), (17, .d (.int .i64 (v.fMasters.map TMaster.D).length)), (18, .d (.int .i64 k)), (8, .pB 8 [] 0)]) (h0 := [.gone, .box (.d v.D), .box (.st [.nils, .nils]), .arr 5 (v.fAxes.map TAxis.D) true, .box (.st [.own 3 0 v.fAxes.length, .own 5 0 k]), .arr 2 RK true, .gone, .arr 3 (m.fPeaks.map TPeak.D) true, .box (.st [.own 7 0 m.fPeaks.length, .own 9 0 KK.length]), .arr 4 (KK.map TGlyphDelta.D) true]) (Weak.cov ?_ ?_ ?_) (WeakX.of (e0 := (VS, .tup [.own 9 0 KK.length, .d (.fnv (.func 51))]) :: [(1, .d (.lst (to.map (D.int .i64)))), (2, .pB 1 [] 0), (4, .pB 2 [] 0), (5, .pB 4 [] 0), (16, .d (.lst (v.fMasters.map TMaster.D))), (17, .d (.int .i64 (v.fMasters.map TMaster.D).length)), (18, .d (.int .i64 k)), (8, .pB 8 [] 0)]) (h0 := [.gone, .box (.d v.D), .box (.st [.nils, .nils]), .arr 5 (v.fAxes.map TAxis.D) true, .box (.st [.own 3 0 v.fAxes.length, .own 5 0 k]), .arr 2 RK true, .gone, .arr 3 (m.fPeaks.map TPeak.D) true, .box (.st [.own 7 0 m.fPeaks.length, .own 9 0 KK.length]), .arr 4 (KK.map TGlyphDelta.D) true]) (Weak.trans (Weak.slotR VS rfl (fun _ _ _ _ => rep_fn2)) (Weak.cov ?_ ?_ ?_)) ⟨_, _, rfl, rfl, ?_⟩))
    · (repeat' (first | exact trivial | with_reducible rfl | (refine ⟨?_, ?_⟩) | rfl))
    · (repeat' (first | exact trivial | with_reducible rfl | (refine ⟨?_, ?_⟩) | rfl))
    · rfl
    · (repeat' (first | exact trivial | with_reducible rfl | (refine ⟨?_, ?_⟩) | rfl))
    · (repeat' (first | exact trivial | with_reducible rfl | (refine ⟨?_, ?_⟩) | rfl))
    · rfl
    obtain ⟨nz, hnz⟩ : ∃ nz, nz = KK.length := ⟨_, rfl⟩
    rw [← hnz] at hIl hKl ⊢
    refine CallW.res (K1 := fun v1 e1 h1 => v1 = .tup [] ∧ e1 = [(1, .d (.lst (to.map (D.int .i64)))), (2, .pB 1 [] 0), (4, .pB 2 [] 0), (5, .pB 4 [] 0), (16, .d (.lst (v.fMasters.map TMaster.D))), (17, .d (.int .i64 (v.fMasters.map TMaster.D).length)), (18, .d (.int .i64 k)), (8, .pB 8 [] 0)] ∧ h1 = [.gone, .box (.d v.D), .box (.st [.nils, .nils]), .arr 5 (v.fAxes.map TAxis.D) true, .box (.st [.own 3 0 v.fAxes.length, .own 5 0 k]), .arr 2 RK true, .gone, .arr 3 (m.fPeaks.map TPeak.D) true, .box (.st [.own 7 0 m.fPeaks.length, .own 9 0 nz]), .arr 4 (Z.map TGlyphDelta.D) true]) (c5.call (b := 9) (fun _ => rfl) rfl hKl.symm rfl rfl rfl ⟨rfl, rfl, rfl⟩) ?_
    rintro _ _ _ ⟨rfl, rfl, rfl⟩
    refine ⟨rfl, WeakX.of (Weak.refl _ _) ?_⟩
    (conv => whnf)
    have hPl : (m.fPeaks.map TPeak.D).length = m.fPeaks.length := List.length_map _
    refine TkW.at hPl.symm ?_
    unfold tkVs
    (conv => whnf)
    refine TkW.at hIl.symm ?_
    unfold tkVs
    (conv => whnf)
    refine OffW.at (by omega) ?_
    (conv => whnf)
    refine TkW.at rfl ?_
    (conv => whnf)
    refine ApW.at (by show k + 1 ≤ 9223372036854775807; omega) (by show (k + 1) * 48 ≤ 140737488355328; omega) ?_
    (conv => whnf)
    refine ArW.i64 (by omega) ?_
    (conv => whnf)
    refine NextW.go (k + 1) (Weak.cov ?_ ?_ ?_) (by omega) (by omega)
    · (repeat' (first | exact trivial | with_reducible rfl | (refine ⟨?_, ?_⟩) | rfl))
    · rw [hRW]
      (repeat' (first | exact trivial | with_reducible rfl | with_reducible exact hap | (refine ⟨?_, ?_⟩) | exact hap | rfl))
    · rfl
structure NuR (v : TVariation) (to : List Int) (z : V) (bs : List Blk) : Prop where
  own : nuC v to = 0 → z = .tup [.st [.own 1 0 v.fAxes.length, .own 2 0 v.fMasters.length], .d (.int .i64 0)] ∧ bs = [.arr 5 (v.fAxes.map TAxis.D) true, .arr 2 ((v.fMasters.map (nuM to)).map TMaster.D) true]
  no : nuC v to ≠ 0 → z = .tup [.st [.nils, .nils], .d (.int .i64 (nuC v to))] ∧ bs = []
set_option maxHeartbeats 4000000 in
theorem RenumberVariation_v (v : TVariation) (to : List Int) (z : V) (bs : List Blk) (hR : NuR v to z bs) : PC Tryz.prog 8 [.d v.D, .d (.lst (to.map (D.int .i64)))] z bs := by
  refine pc_intro ttOk (by kernel_rfl) Tryz.func8 rfl (by kernel_rfl) (by kernel_rfl) (by kernel_rfl) (fun hw => ?_)
  have c1 := wellFormed_v v
  have c2 := isRenumbering_v to
  have hC : nuC v to = if wfB v = true then (if nuB to = true then 0 else 2) else 1 := rfl
  cases q1 : wfB v
  · rw [q1] at c1
    rw [q1, if_neg (by decide)] at hC
    obtain ⟨rfl, rfl⟩ := hR.no (by omega)
    rw [hC]
    (conv => whnf)
    (repeat' (first | (refine stg_ ?_) | (refine cla_ (c1) ?_) | (refine br_ (fun hbr => ?_) (fun hbr => ?_))))
    all_goals (refine RetOK.t rfl ?_; (repeat' (first | ((conv => whnf); done) | ((conv => whnf); (first | (exact ⟨by decide, rfl⟩) | (exact ⟨rfl, rfl⟩) | (refine ⟨_, _, rfl, ?_, ?_⟩) | (refine ⟨_, rfl, ?_⟩) | rfl)))))
  rw [q1] at c1
  rw [q1, if_pos rfl] at hC
  cases q2 : nuB to
  · rw [q2] at c2
    rw [q2, if_neg (by decide)] at hC
    obtain ⟨rfl, rfl⟩ := hR.no (by omega)
    rw [hC]
    (conv => whnf)
    (repeat' (first | (refine stg_ ?_) | (refine cla_ (c1) ?_) | (refine cla_ (c2) ?_) | (refine br_ (fun hbr => ?_) (fun hbr => ?_))))
    all_goals (refine RetOK.t rfl ?_; (repeat' (first | ((conv => whnf); done) | ((conv => whnf); (first | (exact ⟨by decide, rfl⟩) | (exact ⟨rfl, rfl⟩) | (refine ⟨_, _, rfl, ?_, ?_⟩) | (refine ⟨_, rfl, ?_⟩) | rfl)))))
  rw [q2] at c2
  rw [q2, if_pos rfl] at hC
  have c3 := renumberVariation_v v to q1 q2
  obtain ⟨rfl, rfl⟩ := hR.own hC
  (conv => whnf)
  (repeat' (first | (refine stg_ ?_) | (refine cla_ (c1) ?_) | (refine cla_ (c2) ?_) | (refine cla_ (c3) ?_) | (refine br_ (fun hbr => ?_) (fun hbr => ?_))))
  all_goals (refine ⟨⟨[some 3, some 4], ⟨by decide, rfl, trivial, by decide, rfl, trivial, trivial⟩, by decide, ⟨_, rfl, rfl, ?_⟩⟩⟩; (repeat' (first | ((conv => whnf); done) | ((conv => whnf); (first | (exact ⟨by decide, rfl⟩) | (exact ⟨rfl, rfl⟩) | (refine ⟨_, _, rfl, ?_, ?_⟩) | (refine ⟨_, rfl, ?_⟩) | rfl)))))
theorem l00OwnM_v (xs : List Int) (hl : xs.length ≤ 1048576) : PC Tryz.prog 38 [.d (.lst (xs.map (D.int .i64)))] (.own 1 0 xs.length) [.arr 1 (xs.map (D.int .i64)) true] := by
  refine pc_intro ttOk (by kernel_rfl) Tryz.func38 rfl (by kernel_rfl) (by kernel_rfl) (by kernel_rfl) (fun hw => ?_)
  have hL : (xs.map (D.int .i64)).length = xs.length := List.length_map _
  have hm : (xs.map (D.int .i64)).length ≤ 9223372036854775807 := hw.1.1
  (conv => whnf)
  (repeat' (first | (refine stg_ ?_) | fail | (refine br_ (fun hbr => ?_) (fun hbr => ?_))))
  rw [show xs.length = 0 + (xs.map (D.int .i64)).length by simp]
  (refine ⟨⟨[some 1], ⟨by decide, rfl, trivial, trivial⟩, by decide, rfl, ?_⟩⟩; (conv => whnf); exact ⟨by decide, rfl⟩)
set_option maxHeartbeats 2000000 in
theorem l30Own_v (d : TGlyphDelta) (h1 : d.fKnots.length ≤ 1000) (h2 : d.fMoves.length ≤ 1000) : PC Tryz.prog 18 [.pX d.D] (.st [.d (.int .i64 d.fGlyph), .own 1 0 d.fKnots.length, .own 2 0 d.fMoves.length, .d (.int .i64 d.fAdvance)]) [.arr 1 (d.fKnots.map (D.int .i64)) true, .arr 2 (d.fMoves.map TPt.D) true] := by
  refine pc_intro ttOk (by kernel_rfl) Tryz.func18 rfl (by kernel_rfl) (by kernel_rfl) (by kernel_rfl) (fun hw => ?_)
  have c1 := l00OwnM_v d.fKnots (by omega)
  have hL1 : (d.fKnots.map (D.int .i64)).length = d.fKnots.length := List.length_map _
  have hL2 : (d.fMoves.map TPt.D).length = d.fMoves.length := List.length_map _
  (conv => whnf)
  (repeat' (first | (refine stg_ ?_) | (refine cla_ (c1) ?_) | (refine br_ (fun hbr => ?_) (fun hbr => ?_))))
  rw [show 0 + (d.fMoves.map TPt.D).length = d.fMoves.length by rw [hL2]; omega]
  refine ⟨⟨[some 3, some 4], ⟨by decide, rfl, trivial, by decide, rfl, trivial, trivial⟩, by decide, ?_⟩⟩
  exact ⟨rfl, _, rfl, by (repeat' (first | ((conv => whnf); done) | ((conv => whnf); (first | (exact ⟨by decide, rfl⟩) | (exact ⟨rfl, rfl⟩) | (refine ⟨_, _, rfl, ?_, ?_⟩) | (refine ⟨_, rfl, ?_⟩) | rfl))))⟩
set_option maxHeartbeats 4000000 in
theorem l30Insert_v (ds : List TGlyphDelta) (d : TGlyphDelta) (hl : ds.length ≤ 1000) : PC Tryz.prog 19 [.d (.lst (ds.map TGlyphDelta.D)), .d d.D] (.own 1 0 (ds.length + 1)) [.arr 4 ((insD d ds).map TGlyphDelta.D) false] := by
  refine pc_intro ttOk (by kernel_rfl) Tryz.func19 rfl (by kernel_rfl) (by kernel_rfl) (by kernel_rfl) (fun hw => ?_)
  have hL : (ds.map TGlyphDelta.D).length = ds.length := List.length_map _
  (conv => whnf)
  (repeat (refine stg_ ?_))
  refine LoopW.go (α := Nat × List TGlyphDelta × Bool) (fun p => [(0, .d (.lst (ds.map TGlyphDelta.D))), (3, .pB 1 [] 0), (5, .own 2 0 p.2.1.length), (6, .d (.bool p.2.2)), (7, .d (.int .i64 ((p.1 : Nat) : Int)))]) (fun p => [.gone, .box (.d d.D), .arr 4 (p.2.1.map TGlyphDelta.D) false])
    (fun p => p.1 ≤ ds.length ∧ (p.2.2 = false → p.2.1 = ds.take p.1 ∧ insD d ds = p.2.1 ++ insD d (ds.drop p.1)) ∧ (p.2.2 = true → p.2.1.length = p.1 + 1 ∧ insD d ds = p.2.1 ++ ds.drop p.1)) (fun p => ds.length - p.1) (0, [], false) (Weak.trans (Weak.cut0 2 false rfl rfl) (Weak.cov ?_ ?_ ?_)) ⟨Nat.zero_le _, fun _ => ⟨rfl, rfl⟩, fun h => by cases h⟩ ?_
  · (repeat' (first | exact trivial | with_reducible rfl | (refine ⟨?_, ?_⟩) | rfl))
  · (repeat' (first | exact trivial | with_reducible rfl | (refine ⟨?_, ?_⟩) | rfl))
  · rfl
  rintro ⟨k, out, dn⟩ ⟨k1, k2, k3⟩
  dsimp only at k1 k2 k3 ⊢
  have hlo : (out.map TGlyphDelta.D).length = out.length := List.length_map _
  cases dn
  · obtain ⟨rfl, k2⟩ := k2 rfl
    have hlk : (ds.take k).length = k := by rw [List.length_take]; omega
    (conv => whnf)
    (repeat (refine stg_ ?_))
    (refine br_ (fun h1 => ?_) (fun h1 => ?_))
    · obtain ⟨x, hx⟩ := at_lt' (xs := ds) (k := k) (by omega)
      rw [drop_at hx, insD] at k2
      have hx1 : (ds.map TGlyphDelta.D)[k]? = some x.D := by rw [List.getElem?_map, hx]; rfl
      by_cases hg : d.fGlyph < x.fGlyph
      · rw [if_pos hg] at k2
        have hap : Blk.arr 4 (List.take ((ds.take k).length + [d.D].length) (List.take (ds.take k).length ((ds.take k).map TGlyphDelta.D) ++ [d.D]) ++ [x.D]) false = Blk.arr 4 ((ds.take k ++ [d, x]).map TGlyphDelta.D) false := by
          rw [List.take_of_length_le (by rw [List.length_append, List.length_take, hlo]; simp), List.take_of_length_le (by omega), List.map_append]
          simp
        (repeat' (first | (refine stg_ ?_) | fail | (refine br_ (fun hbr => ?_) (fun hbr => ?_))))
        all_goals try (exfalso; omega)
        refine NextW.go (k + 1, ds.take k ++ [d, x], true) (Weak.cov ?_ ?_ ?_) ⟨by dsimp only; omega, (fun h => by cases h), fun _ => ⟨by dsimp only; rw [List.length_append, hlk]; rfl, by dsimp only; rw [k2]; simp⟩⟩ (by dsimp only; omega)
        · refine ⟨rfl, rfl, ?_, rfl, rfl, trivial⟩
          dsimp only
          rw [List.length_append]; rfl
        · (repeat' (first | exact trivial | with_reducible rfl | with_reducible exact hap | (refine ⟨?_, ?_⟩) | exact hap | rfl))
        · rfl
      · rw [if_neg hg] at k2
        have hap : Blk.arr 4 (List.take (ds.take k).length ((ds.take k).map TGlyphDelta.D) ++ [x.D]) false = Blk.arr 4 ((ds.take (k + 1)).map TGlyphDelta.D) false := by
          rw [List.take_of_length_le (by omega), take_snoc_get hx, List.map_append]; rfl
        (repeat' (first | (refine stg_ ?_) | fail | (refine br_ (fun hbr => ?_) (fun hbr => ?_))))
        all_goals try (exfalso; omega)
        refine NextW.go (k + 1, ds.take (k + 1), false) (Weak.cov ?_ ?_ ?_) ⟨by dsimp only; omega, fun _ => ⟨rfl, by dsimp only; rw [take_snoc_get hx, k2]; simp⟩, fun h => by cases h⟩ (by dsimp only; omega)
        · refine ⟨rfl, rfl, ?_, rfl, rfl, trivial⟩
          dsimp only
          rw [take_snoc_get hx, List.length_append]; rfl
        · (repeat' (first | exact trivial | with_reducible rfl | with_reducible exact hap | (refine ⟨?_, ?_⟩) | exact hap | rfl))
        · rfl
    · have hk : k = ds.length := by omega
      rw [List.drop_eq_nil_of_le (by omega), insD, List.take_of_length_le (by omega)] at k2
      have hap : Blk.arr 4 (List.take (ds.take k).length ((ds.take k).map TGlyphDelta.D) ++ [d.D]) false = Blk.arr 4 ((insD d ds).map TGlyphDelta.D) false := by
        rw [List.take_of_length_le (by omega), List.take_of_length_le (by omega), k2, List.map_append]; rfl
      (repeat' (first | (refine stg_ ?_) | fail | (refine br_ (fun hbr => ?_) (fun hbr => ?_))))
      rw [← hap, show ds.length + 1 = (ds.take k).length + [d.D].length by rw [hlk, hk]; rfl]
      (refine ⟨⟨[some 2], ⟨by decide, rfl, trivial, trivial⟩, by decide, rfl, ?_⟩⟩; (conv => whnf); exact ⟨by decide, rfl⟩)
  · obtain ⟨k4, k3⟩ := k3 rfl
    (conv => whnf)
    (repeat (refine stg_ ?_))
    (refine br_ (fun h1 => ?_) (fun h1 => ?_))
    · obtain ⟨x, hx⟩ := at_lt' (xs := ds) (k := k) (by omega)
      have hap : Blk.arr 4 (List.take out.length (out.map TGlyphDelta.D) ++ [x.D]) false = Blk.arr 4 ((out ++ [x]).map TGlyphDelta.D) false := by
        rw [List.take_of_length_le (by omega), List.map_append]; rfl
      rw [drop_at hx] at k3
      (repeat' (first | (refine stg_ ?_) | fail | (refine br_ (fun hbr => ?_) (fun hbr => ?_))))
      all_goals try (exfalso; omega)
      refine NextW.go (k + 1, out ++ [x], true) (Weak.cov ?_ ?_ ?_) ⟨by dsimp only; omega, fun h => (by cases h), fun _ => ⟨by dsimp only; rw [List.length_append, k4]; rfl, by dsimp only; rw [k3]; simp⟩⟩ (by dsimp only; omega)
      · refine ⟨rfl, rfl, ?_, rfl, rfl, trivial⟩
        dsimp only
        rw [List.length_append]; rfl
      · (repeat' (first | exact trivial | with_reducible rfl | with_reducible exact hap | (refine ⟨?_, ?_⟩) | exact hap | rfl))
      · rfl
    · have hk : k = ds.length := by omega
      rw [List.drop_eq_nil_of_le (by omega), List.append_nil] at k3
      (repeat' (first | (refine stg_ ?_) | fail | (refine br_ (fun hbr => ?_) (fun hbr => ?_))))
      rw [k3, show ds.length + 1 = out.length by omega]
      (refine ⟨⟨[some 2], ⟨by decide, rfl, trivial, trivial⟩, by decide, rfl, ?_⟩⟩; (conv => whnf); exact ⟨by decide, rfl⟩)
theorem Weak.frz2 {e : Env} {h : List Blk} (k : Nat) {a n n1 : Nat} {xs : List D} {dp : Bool} {p q r p' q' r' : V} (hk : gt e k = .st [p, .own a 0 n1, q, r]) (ha : h[a]? = some (.arr n xs dp)) (ha0 : Nat.ble 1 a = true) (hl : n1 = xs.length)
    (hp : p.kill a = p') (hq : q.kill a = q') (hr : r.kill a = r') (h1 : ∀ w M h c, repC w M h p c → c.length = 1) (h1' : ∀ w M h c, repC w M h p' c → c.length = 1) :
    Weak e h ((k, .st [p', .d (.lst xs), q', r']) :: dropE [a] e) ((dropK [a] h).set a (.arr n [] true)) := fun B X N M ac w R => by
  have hb1 := Nat.le_of_ble_eq_true ha0
  have hr0 := R.env k
  rw [hk] at hr0
  obtain ⟨cs, e1, c1, c2, rfl, r1, c3, c4, rfl, r2, r3⟩ : ∃ cs : List Value, ac.tmps.getD k Go.undef = .agg cs.toArray ∧ repCs w M h [p, .own a 0 n1, q, r] cs := hr0
  obtain ⟨cv, rfl, r2⟩ := r2
  obtain ⟨M', R', hd⟩ := R.give (by omega) ha (off := 0) (len := n1) (by omega) r2
  rw [List.drop_zero, List.take_of_length_le (by omega)] at hd
  have h3 := R'.env k
  rw [gt_drop, hk] at h3
  obtain ⟨cs', e2, d1, d2, e3, s1, d3, d4, e4, s2, s3⟩ : ∃ cs : List Value, ac.tmps.getD k Go.undef = .agg cs.toArray ∧ repCs w M' ((dropK [a] h).set a (.arr n [] true)) [p.kill a, (V.own a 0 n1).kill a, q.kill a, r.kill a] cs := h3
  rw [e1] at e2
  have e5 : c1 ++ ([cv] ++ c4) = cs' := by
    injection e2 with e2
    exact List.toArray_inj e2
  subst e5
  obtain ⟨u, rfl, _⟩ : ∃ u : Value, d3 = [u] ∧ u.oneCell' = true := by
    have : (V.own a 0 n1).kill a = .top := by
      show (if a = a then V.top else _) = _
      rw [if_pos rfl]
    rw [this] at s2
    exact s2
  have hl1 := h1 w M h c1 r1
  rw [hp] at s1
  have hl2 := h1' w M' _ d1 s1
  obtain ⟨e6, e7⟩ := List.append_inj e3 (by omega)
  subst e6 e4
  have e8 : c4 = d4 := by
    simp only [List.cons_append, List.nil_append, List.cons.injEq] at e7
    exact e7.2
  subst e8
  rw [hq, hr] at s3
  refine ⟨M', R'.know ?_⟩
  rw [e1]
  refine (show ∃ cs : List Value, Value.agg _ = .agg cs.toArray ∧ repCs w M' ((dropK [a] h).set a (.arr n [] true)) [p', .d (.lst xs), q', r'] cs from ⟨_, rfl, c1, _, rfl, s1, [cv], c4, rfl, hd, s3⟩)
theorem repC_dlen {w : World} {M : MM} {h : List Blk} {x : D} {c : List Value} (H : repC w M h (.d x) c) : c.length = x.size := repD_len x c H
theorem Weak.frz3 {e : Env} {h : List Blk} (k : Nat) {a n n1 : Nat} {xs : List D} {dp : Bool} {x0 x1 x3 : D} (hk : gt e k = .st [.d x0, .d x1, .own a 0 n1, .d x3]) (ha : h[a]? = some (.arr n xs dp)) (ha0 : Nat.ble 1 a = true) (hl : n1 = xs.length) (h0 : x0.size = 1) (h1 : x1.size = 1) :
    Weak e h ((k, .st [.d x0, .d x1, .d (.lst xs), .d x3]) :: dropE [a] e) ((dropK [a] h).set a (.arr n [] true)) := fun B X N M ac w R => by
  have hb1 := Nat.le_of_ble_eq_true ha0
  have hr0 := R.env k
  rw [hk] at hr0
  obtain ⟨cs, e1, c1, c2, rfl, r1, c3, c4, rfl, r2, c5, c6, rfl, r3, r4⟩ : ∃ cs : List Value, ac.tmps.getD k Go.undef = .agg cs.toArray ∧ repCs w M h [.d x0, .d x1, .own a 0 n1, .d x3] cs := hr0
  obtain ⟨cv, rfl, r3⟩ := r3
  obtain ⟨M', R', hd⟩ := R.give (by omega) ha (off := 0) (len := n1) (by omega) r3
  rw [List.drop_zero, List.take_of_length_le (by omega)] at hd
  have h3 := R'.env k
  rw [gt_drop, hk] at h3
  obtain ⟨cs', e2, d1, d2, e3, s1, d3, d4, e4, s2, d5, d6, e5, s3, s4⟩ : ∃ cs : List Value, ac.tmps.getD k Go.undef = .agg cs.toArray ∧ repCs w M' ((dropK [a] h).set a (.arr n [] true)) [.d x0, .d x1, (V.own a 0 n1).kill a, .d x3] cs := h3
  rw [e1] at e2
  have e6 : c1 ++ (c3 ++ ([cv] ++ c6)) = cs' := by
    injection e2 with e2
    exact List.toArray_inj e2
  subst e6
  obtain ⟨u, rfl, _⟩ : ∃ u : Value, d5 = [u] ∧ u.oneCell' = true := by
    have : (V.own a 0 n1).kill a = .top := by
      show (if a = a then V.top else _) = _
      rw [if_pos rfl]
    rw [this] at s3
    exact s3
  have l1 := repC_dlen r1
  have l2 := repC_dlen s1
  obtain ⟨q1, q2⟩ := List.append_inj e3 (by omega)
  subst q1 e4
  have l3 := repC_dlen r2
  have l4 := repC_dlen s2
  obtain ⟨q3, q4⟩ := List.append_inj q2 (by omega)
  subst q3 e5
  have e8 : c6 = d6 := by
    simp only [List.cons_append, List.nil_append, List.cons.injEq] at q4
    exact q4.2
  subst e8
  refine ⟨M', R'.know ?_⟩
  rw [e1]
  exact (show ∃ cs : List Value, Value.agg _ = .agg cs.toArray ∧ repCs w M' ((dropK [a] h).set a (.arr n [] true)) [.d x0, .d x1, .d (.lst xs), .d x3] cs from ⟨_, rfl, c1, _, rfl, s1, c3, _, rfl, s2, [cv], c6, rfl, hd, s4⟩)
theorem Rep.give2 {B : World} {X : List Nat} {N : Nat} {M : MM} {e : Env} {h : List Blk} {a : Act} {w : World} (R : Rep B X N M e h a w) {b n off len : Nat} {xs : List D} {dp : Bool} {cv : Value} (hb0 : b ≠ 0) (hb : h[b]? = some (.arr n xs dp)) (hl : off + len ≤ xs.length)
    (H : ownR w M h b off len cv) : ∃ M', Rep B X N M' (dropE [b] e) ((dropK [b] h).set b (.arr n [] true)) a w ∧ repD M'.O w (.lst ((xs.drop off).take len)) [cv] ∧ ∀ c g F, c ≠ b → M[c]? = some (some (g, F)) → ∃ F', M'[c]? = some (some (g, F')) := by
  have hbl : b < M.length := by rw [R.inv.len]; exact (List.getElem?_eq_some_iff.1 hb).1
  have hM : M[b]? = some M[b] := List.getElem?_eq_getElem hbl
  generalize M[b] = m0 at hM
  obtain ⟨M', R', -, mv, hO⟩ := R.reset (w' := w) (m' := none) (k' := .arr n [] true) R.ext hM hb0 hb (.inl rfl) [] [b] (by simp) (by simp) (by simp) (by simp) (by simp [mO]) (by simp [mO]) (by simp [mO]) (Nat.le_refl _) (fun _ _ _ => rfl) rfl (fun q => absurd (by simp) q) (fun _ _ _ => rfl)
  simp only [goneL] at R'
  refine ⟨M', R', ?_, fun c g F hc hm => mv.ids c g F (by simpa using hc) hm⟩
  have hout : ∀ x ∈ mO m0, x ∉ MM.O M' := fun x hx hm => by
    rcases hO x hm with q | ⟨c, m, c1, -, c2, c3⟩
    · simp [mO] at q
    · exact c1 (O_block_inj R.inv hM c2 hx c3)
  have hsub : ∀ x, x ∉ M.O → x ∉ MM.O M' := fun x hx hm => by
    rcases hO x hm with q | ⟨c, m, -, -, c2, c3⟩
    · simp [mO] at q
    · exact hx (mem_O c2 c3)
  obtain ⟨ad, cap, rfl, h1, h2, h3, h4⟩ := H
  have hlen : ((xs.drop off).take len).length = len := by simp; omega
  refine ⟨ad, cap, n, by rw [hlen], by rw [hlen]; exact h1, h2, h3, ?_⟩
  rcases h4 with h4 | ⟨g, F, arr, t, m1, rfl, m3, m4⟩
  · have : (xs.drop off).take len = [] := by
      have : len = 0 := by omega
      rw [this]; rfl
    rw [this]; trivial
  · have hn : nOf h b = n := by simp [nOf, hb]
    rw [hn]
    rw [hM] at m1
    cases m1
    obtain ⟨arr', t', k1, k2, k3⟩ := R.inv.blk b _ _ hb hM
    rw [m3] at k1
    cases k1
    have hext : extDe M'.O w arr n xs 0 := by
      cases dp with
      | true =>
        rw [if_pos rfl] at k3
        have key : ∀ (xs : List D) (i : Nat) (F : List Nat), (∀ b ∈ F, b ∉ MM.O M') → ownDe w arr n xs i F → extDe (MM.O M') w arr n xs i := by
          intro xs
          induction xs with
          | nil => intro i F _ _; trivial
          | cons x xs ih =>
            intro i F hF ⟨F1, F2, ces, e, q1, q2, q3, q4⟩
            subst e
            exact ⟨⟨ces, q1, q2, ownD_rep x F1 ces (fun b hb => hF b (by simp [hb])) q3⟩, ih (i + 1) F2 (fun b hb => hF b (by simp [hb])) q4⟩
        exact key xs 0 F (fun b hb => hout b (by simp [mO, hb])) k3
      | false =>
        rw [if_neg (by simp)] at k3
        exact extDe_mv (w' := w) (fun b hb _ => ⟨hsub b hb, rfl⟩) xs 0 k3.2
    refine (repDe_get _ 0).2 fun i x hx => ?_
    have hi : i < len := by have := (List.getElem?_eq_some_iff.1 hx).1; omega
    rw [List.getElem?_take, if_pos hi, List.getElem?_drop] at hx
    obtain ⟨ces, q1, q2, q3⟩ := extDe_get xs 0 hext _ x hx
    refine ⟨g, off * n, ces, rfl, hout g (by simp [mO]), lt_of_heap m3, fun j v hj => ?_, q1, q3⟩
    have := q2 j v hj
    rw [Nat.zero_add, Nat.add_mul, Nat.add_assoc] at this
    rw [Nat.zero_add]
    simp only [World.cell?, m3, Nat.add_assoc]
    exact this
theorem Rep.boxK {B : World} {X : List Nat} {N : Nat} {M : MM} {e : Env} {h : List Blk} {a : Act} {w : World} (R : Rep B X N M e h a w) (b : Nat) {v v' : V} (hb : h[b]? = some (.box v)) (hb0 : Nat.ble 1 b = true) (hv : ∀ (g : Nat) (F : List Nat) (arr : Array Value) (t : TypeId), M[b]? = some (some (g, F)) → w.heap[g]? = some (.cells arr t (0, 0)) → repC w M h v arr.toList → repC w M h v' arr.toList) : ∃ M', Rep B X N M' e (h.set b (.box v')) a w := by
  have hlt : b < h.length := (List.getElem?_eq_some_iff.1 hb).1
  have hnof : ∀ c, nOf (h.set b (.box v')) c = nOf h c := fun c => by
    unfold nOf
    by_cases hc : b = c
    · subst hc
      rw [List.getElem?_set_self hlt, hb]
    · rw [List.getElem?_set_ne hc]
  have mv' : Mv (fun _ => True) w M h w M (h.set b (.box v')) := {
    ext := fun b hb _ => ⟨hb, rfl⟩
    ids := fun b g F _ hb => ⟨F, hb⟩
    row := fun b g F arr t _ _ hg => ⟨arr, hg, rfl⟩
    nof := fun b g F _ _ => hnof b
    sz := Nat.le_refl _ }
  have hget : ∀ (c : Nat) (k : Blk), (h.set b (.box v'))[c]? = some k → (c = b ∧ k = .box v') ∨ h[c]? = some k := fun c k hk => by
    by_cases hc : b = c
    · subst hc
      rw [List.getElem?_set_self hlt] at hk
      cases hk
      exact .inl ⟨rfl, rfl⟩
    · rw [List.getElem?_set_ne hc] at hk
      exact .inr hk
  have hI' : MInv B.heap.size w M (h.set b (.box v')) := {
    len := by simp [R.inv.len]
    blk := fun c k m hk hm => by
      rcases hget c k hk with ⟨rfl, rfl⟩ | hk3
      · have h1 := R.inv.blk c _ m hb hm
        cases m with
        | none => exact h1
        | some gF =>
          obtain ⟨g, F⟩ := gF
          obtain ⟨h2, arr, t, h3, h4⟩ := h1
          exact ⟨h2, arr, t, h3, repC_mv mv' _ _ (V.inS_all _) (hv _ _ _ _ hm h3 h4)⟩
      · exact BRep_mv mv' (by cases k <;> first | trivial | exact V.inS_all _ | exact inSE_all _) (fun _ _ => rfl) (R.inv.blk c k m hk3 hm)
    nd := R.inv.nd
    lo := fun c k m hk hm hl => by
      rcases hget c k hk with ⟨rfl, rfl⟩ | hk3
      · exact R.inv.lo c _ m hb hm rfl
      · exact R.inv.lo c k m hk3 hm hl
    hi := R.inv.hi }
  refine ⟨M, R.ext, hI', fun k => rep_mv mv' _ _ (V.inS_all _) (R.env k), R.sz, R.df, R.fr, ?_⟩
  rw [List.getElem?_set_ne (by intro e0; subst e0; cases hb0)]
  exact R.fh
theorem Weak.frzB {e : Env} {h : List Blk} (b0 a : Nat) {n n1 : Nat} {xs : List D} {dp : Bool} (hb : h[b0]? = some (.box (.st [.own a 0 n1, .nils]))) (ha : h[a]? = some (.arr n xs dp)) (ha0 : Nat.ble 1 a = true) (hb0 : Nat.ble 1 b0 = true) (hab : b0 ≠ a) (hl : n1 = xs.length)
    (hb' : ((dropK [a] h).set a (.arr n [] true))[b0]? = some (.box (.st [.top, .nils]))) :
    Weak e h (dropE [a] e) (((dropK [a] h).set a (.arr n [] true)).set b0 (.box (.st [.d (.lst xs), .d (.lst [])]))) := fun B X N M ac w R => by
  have hb1 := Nat.le_of_ble_eq_true ha0
  have hbl : b0 < M.length := by rw [R.inv.len]; exact (List.getElem?_eq_some_iff.1 hb).1
  have hM : M[b0]? = some M[b0] := List.getElem?_eq_getElem hbl
  generalize M[b0] = m0 at hM
  have hB := R.inv.blk b0 _ _ hb hM
  cases m0 with
  | none => exact hB.elim
  | some p =>
    obtain ⟨g0, F0⟩ := p
    obtain ⟨-, arr, t, hg, hc⟩ := hB
    obtain ⟨c1, c2, ec, r1, c3, c4, ec2, r2, ec3⟩ := hc
    obtain ⟨cv, rfl, r1⟩ := r1
    have r2' : c3 = [.slice none 0 0] := r2
    subst r2'
    have ec3' : c4 = [] := ec3
    subst ec3' ec2
    obtain ⟨M', R', hd, hids⟩ := R.give2 (by omega) ha (off := 0) (len := n1) (by omega) r1
    rw [List.drop_zero, List.take_of_length_le (by omega)] at hd
    obtain ⟨F', hF'⟩ := hids b0 g0 F0 hab hM
    refine R'.boxK b0 hb' hb0 (fun g F arr' t' h1 h2 _ => ?_)
    rw [hF'] at h1
    cases h1
    rw [hg] at h2
    cases h2
    rw [ec]
    exact ⟨[cv], _, rfl, hd, [.slice none 0 0], [], rfl, ⟨none, 0, 0, rfl, Nat.le_refl _, Nat.zero_le _, fun _ => rfl, trivial⟩, rfl⟩
theorem rep_tup2D {w : World} {M : MM} {h : List Blk} {x : V} {fs : List V} {ds : List D} {cv : Value} (hd : dsOf fs = some ds) (H : rep w M h (.tup [x, .st fs]) cv) : rep w M h (.tup [x, .d (.st ds)]) cv := by
  obtain ⟨cvs, rfl, c, cs, rfl, h1, c2, cs2, rfl, h2, h3⟩ := H
  have h4 := toD_rep (show rep w M h (.st fs) c2 from h2)
  have e : (V.st fs).toD = .d (.st ds) := by rw [V.toD, hd]
  rw [e] at h4
  exact ⟨_, rfl, c, _, rfl, h1, c2, cs2, rfl, h4, h3⟩
structure NuS (v : TVariation) (to : List Int) (z : V) (bs : List Blk) : Prop where
  own : nuC v to = 0 → z = .tup [.st [.own 1 0 v.fAxes.length, .own 2 0 v.fMasters.length], .d (.int .i64 0)] ∧ bs = [.arr 5 (v.fAxes.map TAxis.D) true, .arr 2 ((v.fMasters.map (nuM to)).map TMaster.D) false]
  no : nuC v to ≠ 0 → z = .tup [.st [.nils, .nils], .d (.int .i64 (nuC v to))] ∧ bs = []
set_option maxRecDepth 100000 in
set_option maxHeartbeats 8000000 in
theorem specRenumberVariation_v (v : TVariation) (to : List Int) (z : V) (bs : List Blk) (hR : NuS v to z bs) : PC Tryz.prog 5 [.d v.D, .d (.lst (to.map (D.int .i64)))] z bs := by
  refine pc_intro ttOk (by kernel_rfl) Tryz.func5 rfl (by kernel_rfl) (by kernel_rfl) (by kernel_rfl) (fun hw => ?_)
  have c1 := l30Formed_v v
  have c2 := l30Numbers_v to
  have hC : nuC v to = if wfB v = true then (if nuB to = true then 0 else 2) else 1 := rfl
  cases q1 : wfB v
  · rw [q1] at c1
    rw [q1, if_neg (by decide)] at hC
    obtain ⟨rfl, rfl⟩ := hR.no (by omega)
    rw [hC]
    (conv => whnf)
    (repeat' (first | (refine stg_ ?_) | (refine cla_ (c1) ?_) | (refine br_ (fun hbr => ?_) (fun hbr => ?_))))
    all_goals (refine RetOK.t rfl ?_; (repeat' (first | ((conv => whnf); done) | ((conv => whnf); (first | (exact ⟨by decide, rfl⟩) | (exact ⟨rfl, rfl⟩) | (refine ⟨_, _, rfl, ?_, ?_⟩) | (refine ⟨_, rfl, ?_⟩) | rfl)))))
  rw [q1] at c1
  rw [q1, if_pos rfl] at hC
  cases q2 : nuB to
  · rw [q2] at c2
    rw [q2, if_neg (by decide)] at hC
    obtain ⟨rfl, rfl⟩ := hR.no (by omega)
    rw [hC]
    (conv => whnf)
    (repeat' (first | (refine stg_ ?_) | (refine cla_ (c1) ?_) | (refine cla_ (c2) ?_) | (refine br_ (fun hbr => ?_) (fun hbr => ?_))))
    all_goals (refine RetOK.t rfl ?_; (repeat' (first | ((conv => whnf); done) | ((conv => whnf); (first | (exact ⟨by decide, rfl⟩) | (exact ⟨rfl, rfl⟩) | (refine ⟨_, _, rfl, ?_, ?_⟩) | (refine ⟨_, rfl, ?_⟩) | rfl)))))
  rw [q2] at c2
  rw [q2, if_pos rfl] at hC
  obtain ⟨rfl, rfl⟩ := hR.own hC
  have hto := nu_in q2
  have hwf := q1
  simp only [wfB, Bool.and_eq_true, decide_eq_true_eq, List.all_eq_true] at hwf
  obtain ⟨hax, hm8, hma⟩ := hwf
  have hax3 : v.fAxes.length ≤ 3 := by
    have := hax
    simp only [axsB, Bool.and_eq_true, decide_eq_true_eq] at this
    exact this.1
  have hLa : (v.fAxes.map TAxis.D).length = v.fAxes.length := List.length_map _
  have hLm : (v.fMasters.map TMaster.D).length = v.fMasters.length := List.length_map _
  have hLt : (to.map (D.int .i64)).length = to.length := List.length_map _
  (conv => whnf)
  repeat' (first | ((fail_if_success (with_reducible apply RegD.id)); (refine stg_ ?_)) | (refine cla_ (c1) ?_) | (refine cla_ (c2) ?_))
  all_goals try (exfalso; omega)
  refine LoopW.go (α := Nat) (fun k => [(1, .d (.lst (to.map (D.int .i64)))), (2, .pB 1 [] 0), (4, .pB 2 [] 0), (6, .pB 3 [] 0), (7, .d (.int .i64 k))]) (fun k => [.gone, .box (.d v.D), .box (.st [.nils, .nils]), .box (.st [.own 4 0 k, .nils]), .arr 5 ((v.fAxes.take k).map TAxis.D) true]) (fun k => k ≤ v.fAxes.length) (fun k => v.fAxes.length - k) 0 (Weak.trans (Weak.adoptM 3 [] [.nils] rfl rfl 5 true) (Weak.cov ?_ ?_ ?_)) (Nat.zero_le _) (fun k hk => ?_)
  · (repeat' (first | exact trivial | with_reducible rfl | (refine ⟨?_, ?_⟩) | rfl))
  · (repeat' (first | exact trivial | with_reducible rfl | (refine ⟨?_, ?_⟩) | rfl))
  · rfl
  have hlk : ((v.fAxes.take k).map TAxis.D).length = k := by simp; omega
  (conv => whnf)
  (refine br_ (fun h1 => ?_) (fun h1 => ?_))
  · obtain ⟨a, ha⟩ := at_lt' (xs := v.fAxes) (k := k) (by omega)
    have hea : (v.fAxes.map TAxis.D)[k]? = some a.D := by rw [List.getElem?_map, ha]; rfl
    have ham := axs_ml hax a (List.mem_of_getElem? ha)
    have hLp : (a.fMap.map TAxisPoint.D).length = a.fMap.length := List.length_map _
    have hap : Blk.arr 5 (((v.fAxes.take k).map TAxis.D).take k ++ [a.D]) true = Blk.arr 5 ((v.fAxes.take (k + 1)).map TAxis.D) true := by
      rw [List.take_of_length_le (by omega), take_snoc_get ha, List.map_append]; rfl
    (repeat' (first | (refine stg_ ?_) | fail | (refine br_ (fun hbr => ?_) (fun hbr => ?_))))
    refine TkW.at (by simp) ?_
    unfold tkVs
    (conv => whnf)
    refine OffW.at (by omega) ?_
    (conv => whnf)
    refine TkW.at rfl ?_
    unfold tkVs
    (conv => whnf)
    refine ApW.at (by show k + 1 ≤ 9223372036854775807; omega) (by show (k + 1) * 64 ≤ 140737488355328; omega) ?_
    (conv => whnf)
    refine ArW.i64 (by omega) ?_
    (conv => whnf)
    refine NextW.go (k + 1) (Weak.cov ?_ ?_ ?_) (by omega) (by omega)
    · (repeat' (first | exact trivial | with_reducible rfl | (refine ⟨?_, ?_⟩) | rfl))
    · (repeat' (first | exact trivial | with_reducible rfl | with_reducible exact hap | (refine ⟨?_, ?_⟩) | exact hap | rfl))
    · rfl
  obtain rfl : k = v.fAxes.length := by omega
  rw [List.take_length]
  (repeat' (first | (refine stg_ ?_) | fail | (refine br_ (fun hbr => ?_) (fun hbr => ?_))))
  refine LoopW.go (α := Nat) (fun k => [(1, .d (.lst (to.map (D.int .i64)))), (2, .pB 1 [] 0), (4, .pB 2 [] 0), (6, .pB 3 [] 0), (9, .d (.int .i64 k))]) (fun k => [.gone, .box (.d v.D), .box (.st [.nils, .nils]), .box (.st [.own 4 0 v.fAxes.length, .own 5 0 k]), .arr 5 (v.fAxes.map TAxis.D) true, .arr 2 (((v.fMasters.take k).map (nuM to)).map TMaster.D) false]) (fun k => k ≤ v.fMasters.length) (fun k => v.fMasters.length - k) 0 (Weak.trans (Weak.adoptM 3 [.own 4 0 v.fAxes.length] [] rfl rfl 2 false) (Weak.cov ?_ ?_ ?_)) (Nat.zero_le _) (fun k hk => ?_)
  · (repeat' (first | exact trivial | with_reducible rfl | (refine ⟨?_, ?_⟩) | rfl))
  · (repeat' (first | exact trivial | with_reducible rfl | (refine ⟨?_, ?_⟩) | rfl))
  · rfl
  have hlk : (((v.fMasters.take k).map (nuM to)).map TMaster.D).length = k := by simp; omega
  (conv => whnf)
  (refine br_ (fun h2 => ?_) (fun h2 => ?_))
  rotate_left
  · obtain rfl : k = v.fMasters.length := by omega
    rw [List.take_length]
    (repeat' (first | (refine stg_ ?_) | fail | (refine br_ (fun hbr => ?_) (fun hbr => ?_))))
    refine ⟨⟨[some 4, some 5], ⟨by decide, rfl, trivial, by decide, rfl, trivial, trivial⟩, by decide, ⟨_, rfl, rfl, ?_⟩⟩⟩
    (repeat' (first | ((conv => whnf); done) | ((conv => whnf); (first | (exact ⟨by decide, rfl⟩) | (exact ⟨rfl, rfl⟩) | (refine ⟨_, _, rfl, ?_, ?_⟩) | (refine ⟨_, rfl, ?_⟩) | rfl))))
  obtain ⟨m, hm⟩ := at_lt' (xs := v.fMasters) (k := k) (by omega)
  have hem : (v.fMasters.map TMaster.D)[k]? = some m.D := by rw [List.getElem?_map, hm]; rfl
  have hmB := hma m (List.mem_of_getElem? hm)
  have hkm : k < v.fMasters.length := (List.getElem?_eq_some_iff.1 hm).1
  simp only [maB, Bool.and_eq_true, decide_eq_true_eq] at hmB
  obtain ⟨hm1, hm2, hm3, hm4⟩ := hmB
  have hLP : (m.fPeaks.map TPeak.D).length = m.fPeaks.length := List.length_map _
  have hdg := dsG_all hm4
  have hLd : (m.fDeltas.map TGlyphDelta.D).length = m.fDeltas.length := List.length_map _
  have hmz : v.fMasters[((k : Nat) : Int).toNat]? = some m := by simpa using hm
  (repeat' (first | (refine stg_ ?_) | fail | (refine br_ (fun hbr => ?_) (fun hbr => ?_))))
  refine LoopW.go (α := Nat) (fun j => [(1, .d (.lst (to.map (D.int .i64)))), (2, .pB 1 [] 0), (4, .pB 2 [] 0), (6, .pB 3 [] 0), (9, .d (.int .i64 k)), (10, .pB 7 [] 0), (11, .d (.int .i64 j))]) (fun j => [.gone, .box (.d v.D), .box (.st [.nils, .nils]), .box (.st [.own 4 0 v.fAxes.length, .own 5 0 k]), .arr 5 (v.fAxes.map TAxis.D) true, .arr 2 (((v.fMasters.take k).map (nuM to)).map TMaster.D) false, .gone, .box (.d (.st [.lst (m.fPeaks.map TPeak.D), .lst ((isD (kpD to (m.fDeltas.take j))).map TGlyphDelta.D)]))])
    (fun j => j ≤ m.fDeltas.length) (fun j => m.fDeltas.length - j) 0 (Weak.trans (Weak.frzB 7 6 rfl rfl rfl rfl (by decide) (by simp) rfl) (Weak.trans (Weak.boxd 7 (xs := [.lst (m.fPeaks.map TPeak.D), .lst []]) rfl rfl) (Weak.cov ?_ ?_ ?_))) (Nat.zero_le _) (fun j hj => ?_)
  · (repeat' (first | exact trivial | with_reducible rfl | (refine ⟨?_, ?_⟩) | rfl))
  · (repeat' (first | exact trivial | with_reducible rfl | (refine ⟨?_, ?_⟩) | rfl))
  · rfl
  have hkl := kpD_len to (m.fDeltas.take j)
  rw [List.length_take] at hkl
  generalize hRK : ((v.fMasters.take k).map (nuM to)).map TMaster.D = RK at hlk ⊢
  generalize hZ : isD (kpD to (m.fDeltas.take j)) = Z
  have hZl : Z.length ≤ j := by
    have := isD_len (kpD to (m.fDeltas.take j))
    rw [hZ] at this
    omega
  (conv => whnf)
  refine IxW.mapZ (by omega) hmz ?_
  (conv => whnf)
  (refine br_ (fun h3 => ?_) (fun h3 => ?_))
  rotate_left
  · obtain rfl : j = m.fDeltas.length := by omega
    rw [List.take_length] at hZ
    have hlm : RK.take k ++ [D.st [.lst (m.fPeaks.map TPeak.D), .lst (Z.map TGlyphDelta.D)]] = ((v.fMasters.take (k + 1)).map (nuM to)).map TMaster.D := by
      rw [List.take_of_length_le (by omega), take_snoc_get hm, List.map_append, List.map_append, hRK]
      show _ = _ ++ [(nuM to m).D]
      rw [nuM, hZ]; rfl
    have hap : Blk.arr 2 (RK.take k ++ [D.st [.lst (m.fPeaks.map TPeak.D), .lst (Z.map TGlyphDelta.D)]]) false = Blk.arr 2 (((v.fMasters.take (k + 1)).map (nuM to)).map TMaster.D) false := by rw [hlm]
    (repeat' (first | (refine stg_ ?_) | fail | (refine br_ (fun hbr => ?_) (fun hbr => ?_))))
    refine NextW.go (k + 1) (Weak.cov ?_ ?_ ?_) (by omega) (by omega)
    · (repeat' (first | exact trivial | with_reducible rfl | (refine ⟨?_, ?_⟩) | rfl))
    · (repeat' (first | exact trivial | with_reducible rfl | with_reducible exact hap | (refine ⟨?_, ?_⟩) | exact hap | rfl))
    · rfl
  obtain ⟨d, hd⟩ := at_lt' (xs := m.fDeltas) (k := j) (by omega)
  have hed : (m.fDeltas.map TGlyphDelta.D)[j]? = some d.D := by rw [List.getElem?_map, hd]; rfl
  have hgB := hdg d (List.mem_of_getElem? hd)
  simp only [gdB, inB, Bool.and_eq_true, decide_eq_true_eq] at hgB
  have hk7 := nu_kn_len hgB.2.1
  have hk8 := hgB.2.2.1
  have hkL : (d.fKnots.map (D.int .i64)).length = d.fKnots.length := List.length_map _
  have hkM : (d.fMoves.map TPt.D).length = d.fMoves.length := List.length_map _
  obtain ⟨x, hx⟩ := at_lt' (xs := to) (k := d.fGlyph.toNat) (by rw [hto.l]; omega)
  have htg : tgD to d = x := by rw [tgD, hx]; rfl
  have hex : (to.map (D.int .i64))[d.fGlyph.toNat]? = some (.int .i64 x) := by rw [List.getElem?_map, hx]; rfl
  have hsn := kpD_snoc (to := to) hd
  rw [htg] at hsn
  have c3 := l30Own_v d (by omega) (by omega)
  (repeat' (first | (refine stg_ ?_) | fail | (refine br_ (fun hbr => ?_) (fun hbr => ?_))))
  refine clX_ c3 (WeakX.pre (e0 := [(VS, .st [.d (.int .i64 d.fGlyph), .own 8 0 d.fKnots.length, .own 9 0 d.fMoves.length, .d (.int .i64 d.fAdvance)]), (1, .d (.lst (to.map (D.int .i64)))), (2, .pB 1 [] 0), (4, .pB 2 [] 0), (6, .pB 3 [] 0), (9, .d (.int .i64 k)), (10, .pB 7 [] 0), (11, .d (.int .i64 j))]) (h0 := [.gone, .box (.d v.D), .box (.st [.nils, .nils]), .box (.st [.own 4 0 v.fAxes.length, .own 5 0 k]), .arr 5 (v.fAxes.map TAxis.D) true, .arr 2 RK false, .gone, .box (.d (.st [.lst (m.fPeaks.map TPeak.D), .lst (Z.map TGlyphDelta.D)])), .arr 1 (d.fKnots.map (D.int .i64)) true, .arr 2 (d.fMoves.map TPt.D) true]) (Weak.cov ?_ ?_ ?_) (WeakX.pre (Weak.frz2 VS rfl rfl rfl hkL.symm rfl rfl rfl (fun _ _ _ _ H => repC_dlen H) (fun _ _ _ _ H => repC_dlen H))
    (WeakX.of (e0 := [(VS, .d d.D), (1, .d (.lst (to.map (D.int .i64)))), (2, .pB 1 [] 0), (4, .pB 2 [] 0), (6, .pB 3 [] 0), (9, .d (.int .i64 k)), (10, .pB 7 [] 0), (11, .d (.int .i64 j))]) (h0 := [.gone, .box (.d v.D), .box (.st [.nils, .nils]), .box (.st [.own 4 0 v.fAxes.length, .own 5 0 k]), .arr 5 (v.fAxes.map TAxis.D) true, .arr 2 RK false, .gone, .box (.d (.st [.lst (m.fPeaks.map TPeak.D), .lst (Z.map TGlyphDelta.D)]))]) (Weak.trans (Weak.frz3 VS rfl rfl rfl hkM.symm rfl rfl) (Weak.trans (Weak.slotR VS rfl (fun _ _ _ _ H => toD_rep H)) (Weak.cov ?_ ?_ ?_))) ⟨_, _, rfl, rfl, ?_⟩)))
  · (repeat' (first | exact trivial | with_reducible rfl | (refine ⟨?_, ?_⟩) | rfl))
  · (repeat' (first | exact trivial | with_reducible rfl | (refine ⟨?_, ?_⟩) | rfl))
  · rfl
  · (repeat' (first | exact trivial | with_reducible rfl | (refine ⟨?_, ?_⟩) | rfl))
  · (repeat' (first | exact trivial | with_reducible rfl | (refine ⟨?_, ?_⟩) | rfl))
  · rfl
  (conv => whnf)
  (repeat' (first | (refine stg_ ?_) | fail | (refine br_ (fun hbr => ?_) (fun hbr => ?_))))
  refine IxW.mapZ (by omega) hx ?_
  (conv => whnf)
  (repeat (refine stg_ ?_))
  refine br_ (fun hbr => ?_) (fun hbr => ?_)
  rotate_left
  · rw [if_neg (by omega), List.append_nil] at hsn
    (repeat (refine stg_ ?_))
    refine NextW.go (j + 1) (Weak.cov ?_ ?_ ?_) (by omega) (by omega)
    · (repeat' (first | exact trivial | with_reducible rfl | (refine ⟨?_, ?_⟩) | rfl))
    · rw [hsn, hZ]
      (repeat' (first | exact trivial | with_reducible rfl | (refine ⟨?_, ?_⟩) | rfl))
    · rfl
  rw [if_pos hbr] at hsn
  have hZ1 : isD (kpD to (m.fDeltas.take (j + 1))) = insD ⟨x, d.fKnots, d.fMoves, d.fAdvance⟩ Z := by
    rw [hsn, isD_snoc, hZ, nuE, htg]
  have c4 := l30Insert_v Z ⟨x, d.fKnots, d.fMoves, d.fAdvance⟩ (by omega)
  have hLi : ((insD ⟨x, d.fKnots, d.fMoves, d.fAdvance⟩ Z).map TGlyphDelta.D).length = Z.length + 1 := by rw [List.length_map, insD_len]
  generalize insD ⟨x, d.fKnots, d.fMoves, d.fAdvance⟩ Z = Y at hZ1 c4 hLi
  (repeat' (first | (refine stg_ ?_) | fail | (refine br_ (fun hbr => ?_) (fun hbr => ?_))))
  refine CallW.pre c4.fn (WeakX.of (e0 := (VS, .tup [.d (.lst (Z.map TGlyphDelta.D)), .d (TGlyphDelta.D ⟨x, d.fKnots, d.fMoves, d.fAdvance⟩)]) :: [(1, .d (.lst (to.map (D.int .i64)))), (2, .pB 1 [] 0), (4, .pB 2 [] 0), (6, .pB 3 [] 0), (9, .d (.int .i64 k)), (10, .pB 7 [] 0), (11, .d (.int .i64 j))]) (h0 := [.gone, .box (.d v.D), .box (.st [.nils, .nils]), .box (.st [.own 4 0 v.fAxes.length, .own 5 0 k]), .arr 5 (v.fAxes.map TAxis.D) true, .arr 2 RK false, .gone, .box (.d (.st [.lst (m.fPeaks.map TPeak.D), .lst (Z.map TGlyphDelta.D)])), .gone]) (Weak.trans (Weak.slotR VS rfl (fun _ _ _ _ H => rep_tup2D (ds := [.int .i64 x, .lst (d.fKnots.map (D.int .i64)), .lst (d.fMoves.map TPt.D), .int .i64 d.fAdvance]) rfl H)) (Weak.cov ?_ ?_ ?_)) ⟨_, _, rfl, rfl, ?_⟩)
  · (repeat' (first | exact trivial | with_reducible rfl | (refine ⟨?_, ?_⟩) | rfl))
  · (repeat' (first | exact trivial | with_reducible rfl | (refine ⟨?_, ?_⟩) | rfl))
  · rfl
  refine clX_ c4 (WeakX.pre (e0 := (VS, .own 9 0 (Z.length + 1)) :: [(1, .d (.lst (to.map (D.int .i64)))), (2, .pB 1 [] 0), (4, .pB 2 [] 0), (6, .pB 3 [] 0), (9, .d (.int .i64 k)), (10, .pB 7 [] 0), (11, .d (.int .i64 j))]) (h0 := [.gone, .box (.d v.D), .box (.st [.nils, .nils]), .box (.st [.own 4 0 v.fAxes.length, .own 5 0 k]), .arr 5 (v.fAxes.map TAxis.D) true, .arr 2 RK false, .gone, .box (.d (.st [.lst (m.fPeaks.map TPeak.D), .lst (Z.map TGlyphDelta.D)])), .gone, .arr 4 (Y.map TGlyphDelta.D) false]) (Weak.cov ?_ ?_ ?_) (WeakX.of (e0 := (VS, .d (.lst (Y.map TGlyphDelta.D))) :: [(1, .d (.lst (to.map (D.int .i64)))), (2, .pB 1 [] 0), (4, .pB 2 [] 0), (6, .pB 3 [] 0), (9, .d (.int .i64 k)), (10, .pB 7 [] 0), (11, .d (.int .i64 j))]) (h0 := [.gone, .box (.d v.D), .box (.st [.nils, .nils]), .box (.st [.own 4 0 v.fAxes.length, .own 5 0 k]), .arr 5 (v.fAxes.map TAxis.D) true, .arr 2 RK false, .gone, .box (.d (.st [.lst (m.fPeaks.map TPeak.D), .lst (Z.map TGlyphDelta.D)]))]) (Weak.trans (Weak.freezeA VS rfl rfl rfl hLi.symm) (Weak.cov ?_ ?_ ?_)) ⟨_, _, rfl, rfl, ?_⟩))
  · (repeat' (first | exact trivial | with_reducible rfl | (refine ⟨?_, ?_⟩) | rfl))
  · (repeat' (first | exact trivial | with_reducible rfl | (refine ⟨?_, ?_⟩) | rfl))
  · rfl
  · (repeat' (first | exact trivial | with_reducible rfl | (refine ⟨?_, ?_⟩) | rfl))
  · (repeat' (first | exact trivial | with_reducible rfl | (refine ⟨?_, ?_⟩) | rfl))
  · rfl
  (conv => whnf)
  (repeat' (first | (refine stg_ ?_) | fail | (refine br_ (fun hbr => ?_) (fun hbr => ?_))))
  refine NextW.go (j + 1) (Weak.trans (Weak.boxd 7 (xs := [.lst (m.fPeaks.map TPeak.D), .lst (Y.map TGlyphDelta.D)]) rfl rfl) (Weak.cov ?_ ?_ ?_)) (by omega) (by omega)
  · (repeat' (first | exact trivial | with_reducible rfl | (refine ⟨?_, ?_⟩) | rfl))
  · rw [hZ1]
    (repeat' (first | exact trivial | with_reducible rfl | (refine ⟨?_, ?_⟩) | rfl))
  · rfl
theorem Weak.giveS {e : Env} {h : List Blk} (k a : Nat) {n n1 : Nat} {xs : List D} {dp : Bool} {V0 V1 : V} (hk : gt e k = V0) (ha : h[a]? = some (.arr n xs dp)) (ha0 : Nat.ble 1 a = true) (hl : n1 = xs.length)
    (H : ∀ (w : World) (M : MM) (h : List Blk) (cv : Value), rep w M h V0 cv → ∃ c', ownR w M h a 0 n1 c' ∧ ∀ (M' : MM) (h' : List Blk), repD M'.O w (.lst xs) [c'] → rep w M' h' (V0.kill a) cv → rep w M' h' V1 cv) :
    Weak e h ((k, V1) :: dropE [a] e) ((dropK [a] h).set a (.arr n [] true)) := fun B X N M ac w R => by
  have hb1 := Nat.le_of_ble_eq_true ha0
  have hr0 := R.env k
  rw [hk] at hr0
  obtain ⟨c', q1, q2⟩ := H _ _ _ _ hr0
  obtain ⟨M', R', hd⟩ := R.give (by omega) ha (off := 0) (len := n1) (by omega) q1
  rw [List.drop_zero, List.take_of_length_le (by omega)] at hd
  have h3 := R'.env k
  rw [gt_drop, hk] at h3
  exact ⟨M', R'.know (q2 M' _ hd h3)⟩
theorem give_t2 {a n1 : Nat} {xs : List D} {x x' : V} (hx : x.kill a = x') (w : World) (M : MM) (h : List Blk) (cv : Value) (H : rep w M h (.tup [x, .own a 0 n1]) cv) :
    ∃ c', ownR w M h a 0 n1 c' ∧ ∀ (M' : MM) (h' : List Blk), repD M'.O w (.lst xs) [c'] → rep w M' h' ((V.tup [x, .own a 0 n1]).kill a) cv → rep w M' h' (.tup [x', .d (.lst xs)]) cv := by
  obtain ⟨cvs, rfl, c, cs, rfl, h1, c2, cs2, rfl, h2, h3⟩ := H
  obtain ⟨c2', e2, h2⟩ : ∃ cv, [c2] = [cv] ∧ ownR w M h a 0 n1 cv := h2
  cases e2
  refine ⟨c2, h2, fun M' h' hd hk => ?_⟩
  obtain ⟨cvs', e, d1, ds, rfl, g1, d2, ds2, rfl, g2, g3⟩ : ∃ cvs' : List Value, Value.tuple (c :: c2 :: cs2).toArray = .tuple cvs'.toArray ∧ repT w M' h' [x.kill a, (V.own a 0 n1).kill a] cvs' := hk
  have e2 : c :: c2 :: cs2 = d1 :: d2 :: ds2 := by
    injection e with e
    exact List.toArray_inj e
  simp only [List.cons.injEq] at e2
  obtain ⟨rfl, rfl, rfl⟩ := e2
  rw [hx] at g1
  exact ⟨_, rfl, c, _, rfl, g1, c2, _, rfl, hd, h3⟩
theorem give_s2 {a b n0 n1 : Nat} {xs : List D} {z : D} (hab : (V.own b 0 n0).kill a = .own b 0 n0) (w : World) (M : MM) (h : List Blk) (cv : Value) (H : rep w M h (.tup [.st [.own b 0 n0, .own a 0 n1], .d z]) cv) :
    ∃ c', ownR w M h a 0 n1 c' ∧ ∀ (M' : MM) (h' : List Blk), repD M'.O w (.lst xs) [c'] → rep w M' h' ((V.tup [.st [.own b 0 n0, .own a 0 n1], .d z]).kill a) cv → rep w M' h' (.tup [.st [.own b 0 n0, .d (.lst xs)], .d z]) cv := by
  obtain ⟨cvs, rfl, c, cs, rfl, h1, c2, cs2, rfl, h2, h3⟩ := H
  obtain ⟨us, rfl, u1, u2, rfl, k1, u3, u4, rfl, k2, k3⟩ : ∃ cs : List Value, c = .agg cs.toArray ∧ repCs w M h [.own b 0 n0, .own a 0 n1] cs := h1
  obtain ⟨c', rfl, k2⟩ := k2
  obtain ⟨c0, rfl, k1⟩ := k1
  obtain rfl : u4 = [] := k3
  refine ⟨c', k2, fun M' h' hd hk => ?_⟩
  obtain ⟨cvs', e, d1, ds, rfl, g1, d2, ds2, rfl, g2, g3⟩ : ∃ cvs' : List Value, Value.tuple (Value.agg ([c0] ++ ([c'] ++ []) : List Value).toArray :: c2 :: cs2).toArray = .tuple cvs'.toArray ∧ repT w M' h' [.st [(V.own b 0 n0).kill a, (V.own a 0 n1).kill a], .d z] cvs' := hk
  have e2 : Value.agg ([c0] ++ ([c'] ++ []) : List Value).toArray :: c2 :: cs2 = d1 :: d2 :: ds2 := by
    injection e with e
    exact List.toArray_inj e
  simp only [List.cons.injEq] at e2
  obtain ⟨rfl, rfl, rfl⟩ := e2
  obtain ⟨us', e3, t1, t2, rfl, m1, t3, t4, rfl, m2, m3⟩ : ∃ cs : List Value, Value.agg ([c0] ++ ([c'] ++ []) : List Value).toArray = .agg cs.toArray ∧ repCs w M' h' [(V.own b 0 n0).kill a, (V.own a 0 n1).kill a] cs := g1
  rw [hab] at m1
  obtain ⟨y0, rfl, m1⟩ := m1
  have e4 : [c0] ++ ([c'] ++ []) = [y0] ++ (t3 ++ t4) := by
    injection e3 with e3
    exact List.toArray_inj e3
  have e5 : c0 = y0 := by
    simp only [List.cons_append, List.nil_append, List.cons.injEq] at e4
    exact e4.1
  subst e5
  exact ⟨_, rfl, _, _, rfl, (show ∃ cs : List Value, Value.agg ([c0] ++ ([c'] ++ []) : List Value).toArray = .agg cs.toArray ∧ repCs w M' h' [.own b 0 n0, .d (.lst xs)] cs from ⟨_, rfl, [c0], _, rfl, ⟨c0, rfl, m1⟩, [c'], [], rfl, hd, rfl⟩), c2, _, rfl, g2, h3⟩
theorem give_s1 {a n1 : Nat} {xs : List D} {y z : D} (w : World) (M : MM) (h : List Blk) (cv : Value) (H : rep w M h (.tup [.st [.own a 0 n1, .d y], .d z]) cv) :
    ∃ c', ownR w M h a 0 n1 c' ∧ ∀ (M' : MM) (h' : List Blk), repD M'.O w (.lst xs) [c'] → rep w M' h' ((V.tup [.st [.own a 0 n1, .d y], .d z]).kill a) cv → rep w M' h' (.tup [.d (.st [.lst xs, y]), .d z]) cv := by
  obtain ⟨cvs, rfl, c, cs, rfl, h1, c2, cs2, rfl, h2, h3⟩ := H
  obtain ⟨us, rfl, u1, u2, rfl, k1, u3, u4, rfl, k2, k3⟩ : ∃ cs : List Value, c = .agg cs.toArray ∧ repCs w M h [.own a 0 n1, .d y] cs := h1
  obtain ⟨c', rfl, k1⟩ := k1
  obtain rfl : u4 = [] := k3
  refine ⟨c', k1, fun M' h' hd hk => ?_⟩
  obtain ⟨cvs', e, d1, ds, rfl, g1, d2, ds2, rfl, g2, g3⟩ : ∃ cvs' : List Value, Value.tuple (Value.agg ([c'] ++ (u3 ++ []) : List Value).toArray :: c2 :: cs2).toArray = .tuple cvs'.toArray ∧ repT w M' h' [.st [(V.own a 0 n1).kill a, .d y], .d z] cvs' := hk
  have e2 : Value.agg ([c'] ++ (u3 ++ []) : List Value).toArray :: c2 :: cs2 = d1 :: d2 :: ds2 := by
    injection e with e
    exact List.toArray_inj e
  simp only [List.cons.injEq] at e2
  obtain ⟨rfl, rfl, rfl⟩ := e2
  obtain ⟨us', e3, t1, t2, rfl, m1, t3, t4, rfl, m2, m3⟩ : ∃ cs : List Value, Value.agg ([c'] ++ (u3 ++ []) : List Value).toArray = .agg cs.toArray ∧ repCs w M' h' [(V.own a 0 n1).kill a, .d y] cs := g1
  have ek : (V.own a 0 n1).kill a = .top := by
    show (if a = a then V.top else _) = _
    rw [if_pos rfl]
  rw [ek] at m1
  obtain ⟨y0, rfl, _⟩ : ∃ u : Value, t1 = [u] ∧ u.oneCell' = true := m1
  obtain rfl : t4 = [] := m3
  have e4 : [c'] ++ (u3 ++ []) = [y0] ++ (t3 ++ []) := by
    injection e3 with e3
    exact List.toArray_inj e3
  have e5 : u3 = t3 := by
    simp only [List.cons_append, List.nil_append, List.cons.injEq, List.append_nil] at e4
    exact e4.2
  subst e5
  exact ⟨_, rfl, _, _, rfl, (show ∃ cs : List Value, Value.agg ([c'] ++ (u3 ++ []) : List Value).toArray = .agg cs.toArray ∧ repDs M'.O w [.lst xs, y] cs from ⟨_, rfl, [c'], _, rfl, hd, u3, [], rfl, m2, rfl⟩), c2, _, rfl, g2, h3⟩
end Go.Proofs.YtehndgkmpdlccaaGreat