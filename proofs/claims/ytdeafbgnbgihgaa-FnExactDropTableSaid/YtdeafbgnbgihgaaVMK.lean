/- The abstract machine: functions that turn a row of their caller's. Leans on no program. -/
import Derived.Test.YtdeafbgnbgihgaaVMLib
set_option linter.unusedSimpArgs false
set_option linter.unusedVariables false
namespace Go.Proofs.Ytdeafbgnbgihgaa
open Go.RowKit

/-- from world w to w' only the blocks L were turned; they are L' now -/
structure Kept (w w' : World) (L L' : List Nat) : Prop where
  os : w'.os = w.os
  tape : w'.tape = w.tape
  output : w'.output = w.output
  size : w.heap.size ≤ w'.heap.size
  ch : ∀ x, x < w.heap.size → x ∉ L → w'.heap[x]? = w.heap[x]?
  nd : L'.Nodup
  sub : ∀ x ∈ L', x ∈ L ∨ w.heap.size ≤ x
  hi : ∀ x ∈ L', x < w'.heap.size
/-- f, at a row xs of its caller's own (its first argument) and the values rest, answers v; the row is ys then -/
structure PK (P : Program) (f : FuncId) (n : Nat) (xs : List D) (rest : List V) (v : V) (ys : List D) : Prop where
  fn : ∃ fn, P.funcs[f]? = some fn ∧ (fn.name == "runtime.NumGoroutine") = false ∧ fn.body.isNone = false
  len : ys.length = xs.length
  run : ∀ (w : World) (g : Nat) (t : TypeId) (arr : Array Value) (cap : Nat) (F : List Nat) (args : List Value), w.heap[g]? = some (.cells arr t (0, 0)) → (g :: F).Nodup → (∀ x ∈ F, x < w.heap.size) →
    xs.length ≤ cap → cap ≤ maxLen → cap * n ≤ arr.size → ownDe w arr n xs 0 F → repT w [none] [.gone] rest args →
    Calls P f (.slice (some ⟨g, 0, none⟩) xs.length cap :: args).toArray w fun en w' => ∃ cv arr' F', en = .returned cv ∧ rep w' [none] [.gone] v cv ∧ Kept w w' (g :: F) (g :: F') ∧
      w'.heap[g]? = some (.cells arr' t (0, 0)) ∧ arr'.size = arr.size ∧ ownDe w' arr' n ys 0 F'
  nil : xs = [] → ∀ (w : World) (a : Option Addr) (cap : Nat) (args : List Value), cap ≤ maxLen → (a = none → cap = 0) → repT w [none] [.gone] rest args →
    Calls P f (.slice a 0 cap :: args).toArray w fun en w' => ∃ cv, en = .returned cv ∧ rep w' [none] [.gone] v cv ∧ Ext w w'
/-- plain values: they say the same in all memory -/
def V.plain : V → Bool
  | .d x => x.flat
  | _ => false
def plains : List V → Bool
  | [] => true
  | v :: vs => v.plain && plains vs
theorem plain_rep {w w' : World} {M M' : MM} {h h' : List Blk} {v : V} {cv : Value} (hp : v.plain = true) (H : rep1 w M h v cv) : rep1 w' M' h' v cv := by
  cases v with
  | d x =>
    have hx : x.flat = true := hp
    have key : ∀ cs : List Value, repC w M h (.d x) cs → repC w' M' h' (.d x) cs := fun cs hc => by
      have := flat_own (O := M.O) (w := w) x cs hx hc
      exact ownD_rep (O := M'.O) (w := w') x [] cs (by simp) (ownD_mv x [] cs (by simp) this)
    unfold rep1 at H ⊢
    split at H
    · rename_i ha
      rw [if_pos ha]
      obtain ⟨cs, e, H⟩ := H
      exact ⟨cs, e, key cs H⟩
    · rename_i ha
      rw [if_neg ha]
      exact key _ H
  | _ => cases hp
theorem plains_rep {w w' : World} {M M' : MM} {h h' : List Blk} : ∀ (vs : List V) (cs : List Value), plains vs = true → repT w M h vs cs → repT w' M' h' vs cs
  | [], cs, _, H => H
  | v :: vs, cs, hp, H => by
    simp only [plains, Bool.and_eq_true] at hp
    obtain ⟨c, cs', e, h1, h2⟩ := H
    exact ⟨c, cs', e, plain_rep hp.1 h1, plains_rep vs cs' hp.2 h2⟩
def V.resOK : V → Bool
  | .tup [] => true
  | v => v.plain
theorem res_rep {w w' : World} {M M' : MM} {h h' : List Blk} {v : V} {cv : Value} (hp : v.resOK = true) (H : rep w M h v cv) : rep w' M' h' v cv := by
  cases v with
  | tup vs =>
    cases vs with
    | nil =>
      obtain ⟨cvs, e, H⟩ := H
      exact ⟨cvs, e, H⟩
    | cons _ _ => cases hp
  | d x => exact rep_of_rep1 (plain_rep (v := .d x) hp (rep1_of_rep rfl H))
  | _ => cases hp
theorem plain_okc {v : V} (hp : v.plain = true) : v.okc = true := by cases v <;> first | rfl | cases hp
/-- such a call, seen from the caller -/
theorem PK.call {P : Program} {f : FuncId} {n n0 : Nat} {xs ys : List D} {rest : List V} {v : V} (pk : PK P f n xs rest v ys) (hn0 : xs ≠ [] → n0 = n) {b len : Nat} {e : Env} {h : List Blk} {K : V → Env → List Blk → Prop}
    (hb : h[b]? = some (.arr n0 xs true)) (hl : len = xs.length) (hb0 : Nat.ble 1 b = true) (hr : plains rest = true) (hv : v.resOK = true) (H : K v e (h.set b (.arr n0 ys true))) : CallM P f (.own b 0 len :: rest) e h K where
  fn := pk.fn
  run B X N M a w args R hargs := by
    obtain ⟨c0, args, rfl, h1, h2⟩ := hargs
    have h2' := plains_rep (w' := w) (M' := [none]) (h' := [.gone]) rest args hr h2
    have hb1 : 1 ≤ b := Nat.le_of_ble_eq_true hb0
    subst hl
    obtain ⟨ad, cap, rfl, k1, k2, k3, k4⟩ := rep_own.1 (rep_of_rep1 h1)
    by_cases hx : xs = []
    · have hy : ys = [] := List.eq_nil_of_length_eq_zero (by rw [pk.len, hx]; rfl)
      subst hx
      subst hy
      refine (pk.nil rfl w ad cap args k2 k3 h2').mono ?_
      rintro en w' ⟨cv, rfl, q1, q2⟩
      refine ⟨v, cv, e, h, M, rfl, ?_, R.step (R.ext.trans q2) (R.inv.ext q2) (q2.mv R.inv.hi) rfl rfl, res_rep hv q1⟩
      rwa [show h.set b (.arr n0 [] true) = h from set_self h b _ hb] at H
    · obtain rfl := hn0 hx
      have hn : nOf h b = n0 := by simp [nOf, hb]
      have hc : cap ≠ 0 := fun q => hx (List.eq_nil_of_length_eq_zero (by omega))
      rcases k4 with k4 | ⟨g, F, arr, t, m1, m2, m3, m4⟩
      · exact absurd k4 hc
      · subst m2
        obtain ⟨arr0, t0, r1, r2, r3⟩ : ∃ arr t, w.heap[g]? = some (.cells arr t (0, 0)) ∧ xs.length * n0 ≤ arr.size ∧ (if true = true then ownDe w arr n0 xs 0 F else F = [] ∧ extDe M.O w arr n0 xs 0) := R.inv.blk b _ _ hb m1
        rw [m3] at r1
        cases r1
        rw [if_pos rfl] at r3
        have nd : (g :: F).Nodup := by
          have := mO_nodup R.inv m1
          exact this
        rw [hn, Nat.zero_mul]
        refine (pk.run w g t arr cap F args m3 nd (fun x hx => R.inv.hi x (mem_O m1 (by simp [mO, hx]))) k1 k2 (by rw [Nat.zero_add, hn] at m4; exact m4) r3 h2').mono ?_
        rintro en w' ⟨cv, arr', F', rfl, q1, q2, q3, q4, q5⟩
        have hxB : Ext B w' := by
          have hlo := R.inv.lo b _ _ hb m1 rfl
          refine Below.trans R.ext ⟨q2.os, q2.tape, q2.output, q2.size, fun k hk => q2.ch k (Nat.lt_of_lt_of_le hk R.base) (fun hm => ?_)⟩
          have := hlo k hm
          omega
        obtain ⟨M', R', _, _⟩ := R.reset (w' := w') hxB m1 (by omega) hb (.inl rfl) [] [] (by simp) (by simp) (by simp) (by simp) (m' := some (g, F')) q2.nd
          (fun x hx => (q2.sub x hx).imp id (fun q => .inr q)) q2.hi q2.size (fun x hx hxm => q2.ch x hx hxm) (k' := .arr n0 ys true) rfl
          (fun _ g1 F1 e1 => by
            cases e1
            refine ⟨⟨F', rfl⟩, ?_, fun arr1 t1 hg1 => ?_⟩
            · simp only [nOf, hb, List.getElem?_set_self (List.getElem?_eq_some_iff.1 hb).1]
            · rw [m3] at hg1
              cases hg1
              exact ⟨arr', q3, q4⟩)
          (fun M' h' _ => ⟨arr', t, q3, by
            have : xs.length * n0 ≤ cap * n0 := Nat.mul_le_mul_right n0 k1
            rw [pk.len, q4]; rw [Nat.zero_add, hn] at m4; omega, by rw [if_pos rfl]; exact q5⟩)
        exact ⟨v, cv, e, _, M', rfl, H, R', res_rep hv q1⟩
theorem CallW.useK {P : Program} {f : FuncId} {n : Nat} {xs ys : List D} {rest : List V} {v : V} (pk : PK P f n xs rest v ys) {b len : Nat} {e : Env} {h : List Blk} {K : V → Env → List Blk → Prop}
    (hb : h[b]? = some (.arr n xs true)) (hl : len = xs.length) (hb0 : Nat.ble 1 b = true) (hr : plains rest = true) (hv : v.resOK = true) (H : K v e (h.set b (.arr n ys true))) : CallW P false f (.own b 0 len :: rest) e h K :=
  ⟨.inr ⟨rfl, pk.call (fun _ => rfl) hb hl hb0 hr hv H⟩⟩
theorem CallW.useK0 {P : Program} {f : FuncId} {n n0 : Nat} {xs ys : List D} {rest : List V} {v : V} (pk : PK P f n xs rest v ys) (hn0 : xs ≠ [] → n0 = n) {b len : Nat} {e : Env} {h : List Blk} {K : V → Env → List Blk → Prop}
    (hb : h[b]? = some (.arr n0 xs true)) (hl : len = xs.length) (hb0 : Nat.ble 1 b = true) (hr : plains rest = true) (hv : v.resOK = true) (H : K v e (h.set b (.arr n0 ys true))) : CallW P false f (.own b 0 len :: rest) e h K :=
  ⟨.inr ⟨rfl, pk.call hn0 hb hl hb0 hr hv H⟩⟩

/-! ### from the code of such a function -/
/-- how such a function's code must end -/
def kQ (tt : TT) (rs : List ResultVar) (n : Nat) (v : V) (ys : List D) (G : Blk) : Post
  | .normal => fun e h => retV tt rs e h fun va => va = v ∧ ∃ r, h = .gone :: G :: .arr n ys true :: r
  | .ret => fun e h => retV tt rs e h fun va => va = v ∧ ∃ r, h = .gone :: G :: .arr n ys true :: r
  | .exit _ => fun _ _ => False
theorem pk_intro {P : Program} {tt : TT} (hT : TOk P tt) (hm : P.follows .mixedOrders = true) {f : FuncId} {fn : Func} {c : Code} (hf : P.funcs[f]? = some fn) (hb : fn.body = some c) (hname : (fn.name == "runtime.NumGoroutine") = false)
    (hN : codeB fn.ntmps c = true) {n : Nat} {xs ys : List D} {rest : List V} (hA : Nat.ble (rest.length + 1) fn.ntmps = true) {v : V} (hlen : ys.length = xs.length) (hrp : plains rest = true) (hv : v.resOK = true)
    (H0 : xs = [] → PC P f (.d (.lst []) :: rest) v [])
    (H : ∀ (k : Nat → Option Obj) (s g sz : Nat) (t : TypeId), wfVs rest → xs.length ≤ maxLen → wpC P tt c (kQ tt fn.results.toList n v ys (.gho k s g sz t)) (argE 0 (.own 2 0 xs.length :: rest)) [.gone, .gho k s g sz t, .arr n xs true]) : PK P f n xs rest v ys where
  fn := ⟨fn, hf, hname, by rw [hb]; rfl⟩
  len := hlen
  nil := fun hx w a cap args hm1 hm2 hargs => by
    have pc := H0 hx
    refine (pc.run w [] (.slice a 0 cap :: args) (by simp) (by simp) ⟨_, args, rfl, ?_, hargs⟩).mono ?_
    · show rep1 w [none] [.gone] (.d (.lst [])) (.slice a 0 cap)
      exact rep1_of_rep rfl (rep_lst.2 ⟨a, cap, 0, rfl, Nat.zero_le _, hm1, hm2, trivial⟩)
    · rintro en w' ⟨cv, M', rfl, k1, k2, k3⟩
      exact ⟨cv, rfl, res_rep hv k3, k1⟩
  run := fun w g t arr cap F args hg nd hF k1 k2 k3 hown hargs => by
    have hO : MM.O [none, none, some (g, F)] = g :: F := by simp [MM.O, mO]
    have hglt := lt_of_heap hg
    let fr : Nat → Option Obj := fun b => if b ∈ g :: F then none else w.heap[b]?
    have hfr : ∀ b o, fr b = some o → b ∉ g :: F ∧ w.heap[b]? = some o := fun b o hc => by
      simp only [fr] at hc
      split at hc
      · cases hc
      · rename_i hm'; exact ⟨hm', hc⟩
    have hlenT : ∀ (vs : List V) (cs : List Value), repT w [none] [.gone] vs cs → cs.length = vs.length := by
      intro vs
      induction vs with
      | nil => intro cs H; cases H; rfl
      | cons v vs ih => intro cs H; obtain ⟨c, cs', rfl, _, h2⟩ := H; simp [ih _ h2]
    have hl := hlenT rest args hargs
    have hA' := Nat.le_of_ble_eq_true hA
    have hargs2 : repT w [none, none, some (g, F)] [.gone, .gho fr w.heap.size g (arr.size + 1) t, .arr n xs true] (.own 2 0 xs.length :: rest) (.slice (some ⟨g, 0, none⟩) xs.length cap :: args) := by
      refine ⟨_, args, rfl, rep1_of_rep rfl (rep_own.2 ⟨some ⟨g, 0, none⟩, cap, rfl, k1, k2, by simp, .inr ⟨g, F, arr, t, rfl, ?_, hg, ?_⟩⟩), plains_rep rest args hrp hargs⟩
      · simp
      · show (0 + cap) * nOf _ 2 ≤ _
        rw [Nat.zero_add]; exact k3
    have R : Rep { w with heap := #[] } [] fn.ntmps [none, none, some (g, F)] (argE 0 (.own 2 0 xs.length :: rest)) [.gone, .gho fr w.heap.size g (arr.size + 1) t, .arr n xs true]
        { tmps := (.slice (some ⟨g, 0, none⟩) xs.length cap :: args).toArray ++ Array.replicate (fn.ntmps - (Value.slice (some ⟨g, 0, none⟩) xs.length cap :: args).toArray.size) Go.undef, defers := [] } w := {
      ext := ⟨rfl, rfl, rfl, Nat.zero_le _, fun k hk => by simp at hk⟩
      inv := ⟨rfl, fun b k m hk hm => by
          match b, hk, hm with
          | 0, hk, hm => simp at hk; subst hk; trivial
          | 1, hk, hm =>
            simp at hk hm
            subst hk
            exact ⟨fun b o hc => by rw [hO]; exact hfr b o hc, Nat.le_refl _, F, rfl, .inr ⟨arr, hg, rfl⟩⟩
          | 2, hk, hm =>
            simp at hk hm
            subst hk
            subst hm
            exact ⟨arr, t, hg, Nat.le_trans (Nat.mul_le_mul_right n k1) k3, by rw [if_pos rfl]; exact hown⟩
          | b + 3, hk, hm => simp at hk, by rw [hO]; exact nd, fun _ _ _ _ _ _ g' _ => Nat.zero_le _, by
          rw [hO]
          intro x hx
          rcases List.mem_cons.1 hx with rfl | hx
          · exact hglt
          · exact hF x hx⟩
      env := fun k => by
        rw [argE_get, if_pos (Nat.zero_le _), Nat.sub_zero]
        split
        · rename_i v hv
          obtain ⟨cc, q1, q2⟩ := repT_get _ _ k v hargs2 hv
          have hk : k < (Value.slice (some ⟨g, 0, none⟩) xs.length cap :: args).length := (List.getElem?_eq_some_iff.1 q1).1
          have : ((.slice (some ⟨g, 0, none⟩) xs.length cap :: args).toArray ++ Array.replicate (fn.ntmps - (Value.slice (some ⟨g, 0, none⟩) xs.length cap :: args).toArray.size) Go.undef).getD k Go.undef = cc := by
            rw [Array.getD_eq_getD_getElem?, Array.getElem?_append_left (by simpa using hk)]
            simp only [List.getElem?_toArray, q1, Option.getD_some]
          dsimp only
          rw [this]
          exact rep_of_rep1 q2
        · trivial
      sz := by simp [hl]; omega
      df := rfl
      fr := rfl
      fh := rfl }
    have hwf : wfVs rest := repT_wf _ _ hargs
    refine calls_of_wp hf hb (wp_mono (code_sound hT hm c _ _ _ _ _ _ hN (H fr w.heap.size g (arr.size + 1) t hwf (Nat.le_trans k1 k2)) R) fun x a' w' hx => ?_)
    have fin : ∀ (e : Env) (h : List Blk) (M : MM), retV tt fn.results.toList e h (fun va => va = v ∧ ∃ r, h = .gone :: .gho fr w.heap.size g (arr.size + 1) t :: .arr n ys true :: r) → Rep { w with heap := #[] } [] fn.ntmps M e h a' w' →
        a'.defers = [] ∧ ∃ cv, (results fn a'.tmps).run P w' = .ok cv w' ∧ ∃ cv' arr' F', Ending.returned cv = .returned cv' ∧ rep w' [none] [.gone] v cv' ∧ Kept w w' (g :: F) (g :: F') ∧
          w'.heap[g]? = some (.cells arr' t (0, 0)) ∧ arr'.size = arr.size ∧ ownDe w' arr' n ys 0 F' := by
      intro e h M hr R'
      have post : ∀ {va : V} {cv : Value}, rep w' M h va cv → (va = v ∧ ∃ r, h = .gone :: .gho fr w.heap.size g (arr.size + 1) t :: .arr n ys true :: r) → ∃ cv' arr' F', Ending.returned cv = .returned cv' ∧ rep w' [none] [.gone] v cv' ∧ Kept w w' (g :: F) (g :: F') ∧
          w'.heap[g]? = some (.cells arr' t (0, 0)) ∧ arr'.size = arr.size ∧ ownDe w' arr' n ys 0 F' := by
        rintro va cv hva ⟨rfl, r, rfl⟩
        obtain ⟨m1, hm1⟩ := at_lt (xs := M) (k := 1) (by rw [R'.inv.len]; simp)
        obtain ⟨m2, hm2⟩ := at_lt (xs := M) (k := 2) (by rw [R'.inv.len]; simp)
        obtain ⟨q1, q2, F', q3, q45⟩ : (∀ b o, fr b = some o → b ∉ M.O ∧ w'.heap[b]? = some o) ∧ w.heap.size ≤ w'.heap.size ∧ ∃ F', M[2]? = some (some (g, F')) ∧ (arr.size + 1 = 0 ∨ ∃ arr', w'.heap[g]? = some (.cells arr' t (0, 0)) ∧ arr'.size + 1 = arr.size + 1) := R'.inv.blk 1 _ _ rfl hm1
        obtain ⟨arr', q4, q5⟩ : ∃ arr', w'.heap[g]? = some (.cells arr' t (0, 0)) ∧ arr'.size = arr.size := by
          rcases q45 with q | ⟨arr', q4, q5⟩
          · cases q
          · exact ⟨arr', q4, by omega⟩
        obtain ⟨arr2, t2, z1, z2, z3⟩ : ∃ arr t, w'.heap[g]? = some (.cells arr t (0, 0)) ∧ ys.length * n ≤ arr.size ∧ (if true = true then ownDe w' arr n ys 0 F' else F' = [] ∧ extDe M.O w' arr n ys 0) := R'.inv.blk 2 _ _ rfl q3
        rw [q4] at z1
        cases z1
        rw [if_pos rfl] at z3
        have back : ∀ x, x < w.heap.size → x ∉ g :: F → x ∉ M.O ∧ w'.heap[x]? = w.heap[x]? := fun x hx hxm => by
          have e1 : fr x = w.heap[x]? := by simp only [fr]; rw [if_neg hxm]
          have e2 : w.heap[x]? = some w.heap[x] := Array.getElem?_eq_getElem hx
          obtain ⟨u1, u2⟩ := q1 x _ (e1.trans e2)
          exact ⟨u1, by rw [u2, e2]⟩
        refine ⟨cv, arr', F', rfl, res_rep hv hva, ⟨R'.ext.os, R'.ext.tape, R'.ext.output, q2, fun x hx hxm => (back x hx hxm).2, mO_nodup R'.inv q3, fun x hx => ?_, fun x hx => R'.inv.hi x (mem_O q3 hx)⟩, q4, q5, z3⟩
        rcases Nat.lt_or_ge x w.heap.size with hlt | hge
        · refine .inl (Classical.byContradiction fun hxm => ?_)
          exact (back x hlt hxm).1 (mem_O q3 hx)
        · exact .inr hge
      obtain ⟨vs, cvs, h1, h2, h3, h4⟩ := res_sound hT R' _ _ hr
      refine ⟨R'.df, _, run_results h4, ?_⟩
      match vs, cvs, h2 with
      | [va], [cv], _ =>
        obtain ⟨c', k1, k2⟩ := h3 0 va rfl
        cases k1
        exact post k2 h1
      | [], [], _ => exact post (va := .tup []) (cv := .tuple #[]) ⟨[], rfl, rfl⟩ h1
      | va :: vb :: vs, ca :: cb :: cvs, h2 =>
        exfalso
        dsimp only at h1
        cases hok : okTs (va :: vb :: vs) with
        | false => rw [hok] at h1; exact h1.elim
        | true =>
          rw [hok] at h1
          simp only [cond_true] at h1
          have := h1.1
          subst this
          cases hv
    cases x with
    | normal => obtain ⟨e, h, M, k1, k2⟩ := hx; exact fin e h M k1 k2
    | ret => obtain ⟨e, h, M, k1, k2⟩ := hx; exact fin e h M k1 k2
    | exit id => obtain ⟨e, h, M, k1, k2⟩ := hx; exact k1.elim
    | goto l => exact hx.elim
    | panic => exact hx.elim
    | outgrown => exact hx.elim
end Go.Proofs.Ytdeafbgnbgihgaa
