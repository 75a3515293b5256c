/- merged: several parts in one text. Leans on no more than they do. -/
import Derived.Test.YtdeafbgnbgihgaaDoorVMOut
set_option linter.unusedSimpArgs false
set_option linter.unusedVariables false
namespace Go.Proofs.YtdeafbgnbgihgaaDoor
open Go.RowKit
theorem ret_rep {P : Program} {tt : TT} (hT : TOk P tt) {B : World} {X : List Nat} {N : Nat} {M : MM} {e : Env} {h : List Blk} {a : Act} {w : World} (R : Rep B X N M e h a w) {fn : Func} {K : V → Prop}
    (hr : retV tt fn.results.toList e h K) : ∃ va cv, K va ∧ rep w M h va cv ∧ (results fn a.tmps).run P w = .ok cv w := by
  obtain ⟨vs, cvs, h1, h2, h3, h4⟩ := res_sound hT R _ _ hr
  match vs, cvs, h2 with
  | [va], [cv], _ =>
    obtain ⟨c', k1, k2⟩ := h3 0 va rfl
    cases k1
    exact ⟨va, cv, h1, k2, run_results h4⟩
  | [], [], _ => exact ⟨.tup [], .tuple #[], h1, ⟨[], rfl, rfl⟩, run_results h4⟩
  | va :: vb :: vs, ca :: cb :: cvs, h2 =>
    dsimp only at h1
    cases hok : okTs (va :: vb :: vs) with
    | false => rw [hok] at h1; exact h1.elim
    | true =>
      rw [hok] at h1
      simp only [cond_true] at h1
      have hall : ∀ (vs : List V) (cs : List Value), vs.length = cs.length → okTs vs = true → (∀ (i : Nat) (v : V), vs[i]? = some v → ∃ c, cs[i]? = some c ∧ rep w M h v c) → repT w M h vs cs := by
        intro vs
        induction vs with
        | nil => intro cs hl _ _; cases cs with
          | nil => rfl
          | cons _ _ => simp at hl
        | cons v vs ih =>
          intro cs hl ho hg
          cases cs with
          | nil => simp at hl
          | cons c cs =>
            simp only [okTs, Bool.and_eq_true] at ho
            obtain ⟨c', q1, q2⟩ := hg 0 v rfl
            cases q1
            exact ⟨c, cs, rfl, rep1_of_rep ho.1 q2, ih cs (by simpa using hl) ho.2 fun i v hi => by simpa using hg (i + 1) v (by simpa using hi)⟩
      exact ⟨_, _, h1, ⟨_, rfl, hall _ _ h2 hok h3⟩, run_results h4⟩
def inK (n : Nat) (f : Nat → Value) (K : V → Env → List Blk → Prop) (h : List Blk) (va : V) : Prop :=
  match h[n]? with
  | some (.keep e f') => f' = f ∧ K va e (h.set n .gone)
  | _ => False
def inQ (tt : TT) (rs : List ResultVar) (n : Nat) (f : Nat → Value) (K : V → Env → List Blk → Prop) : Post
  | .normal => fun e h => retV tt rs e h (inK n f K h)
  | .ret => fun e h => retV tt rs e h (inK n f K h)
  | .exit _ => fun _ _ => False
theorem CallM.inl {P : Program} {tt : TT} (hT : TOk P tt) (hm : P.follows .mixedOrders = true) {f : FuncId} {fn : Func} {c : Code} (hf : P.funcs[f]? = some fn) (hb : fn.body = some c) (hname : (fn.name == "runtime.NumGoroutine") = false)
    (hN : codeB fn.ntmps c = true) {vs : List V} {e : Env} {h : List Blk} {K : V → Env → List Blk → Prop} (hA : Nat.ble vs.length fn.ntmps = true) (e0 : Env) (he0 : ∀ k, gt e0 k = .top ∨ gt e0 k = gt e k)
    (H : ∀ s : Nat → Value, wpC P tt c (inQ tt fn.results.toList h.length s K) (argE 0 vs) (h ++ [.keep e0 s])) : CallM P f vs e h K where
  fn := ⟨fn, hf, hname, by rw [hb]; rfl⟩
  run B X N M a w args R hargs := by
    let s : Nat → Value := fun k => a.tmps.getD k Go.undef
    have hO : MM.O ([none] : MM) = [] := by simp [MM.O, mO]
    have mv : Mv (fun _ => True) w M h w (M ++ [none]) (h ++ [.keep e0 s]) := push_mv R.inv.len (Ext.refl w) R.inv.hi (by rw [hO]; simp)
    have hI : MInv B.heap.size w (M ++ [none]) (h ++ [.keep e0 s]) := R.inv.push R.base (Ext.refl w) rfl (by rw [hO]; simp) (by rw [hO]; simp) (by rw [hO]; simp) (by
      intro b k m hk hmm
      cases b with
      | succ b => simp at hk
      | zero =>
        simp at hk hmm
        subst hk
        subst hmm
        intro k
        refine rep_mv mv _ _ (V.inS_all _) ?_
        rcases he0 k with q | q
        · rw [q]; trivial
        · rw [q]; exact R.env k)
    have hlenT : ∀ (vs : List V) (cs : List Value), repT w M h vs cs → cs.length = vs.length := by
      intro vs
      induction vs with
      | nil => intro cs H; cases H; rfl
      | cons v vs ih => intro cs H; obtain ⟨c, cs', rfl, _, h2⟩ := H; simp [ih _ h2]
    have hl := hlenT vs args hargs
    have hA' := Nat.le_of_ble_eq_true hA
    have hargs2 : repT w (M ++ [none]) (h ++ [.keep e0 s]) vs args := by
      have key : ∀ (vs : List V) (cs : List Value), repT w M h vs cs → repT w (M ++ [none]) (h ++ [.keep e0 s]) vs cs := by
        intro vs
        induction vs with
        | nil => intro cs H; exact H
        | cons v vs ih => intro cs H; obtain ⟨c, cs', e, h1, h2⟩ := H; exact ⟨c, cs', e, rep1_mv mv v c (V.inS_all v) h1, ih cs' h2⟩
      exact key vs args hargs
    have R1 : Rep B X fn.ntmps (M ++ [none]) (argE 0 vs) (h ++ [.keep e0 s]) { tmps := args.toArray ++ Array.replicate (fn.ntmps - args.toArray.size) Go.undef, defers := [] } w := {
      ext := R.ext
      inv := hI
      env := fun k => by
        rw [argE_get, if_pos (Nat.zero_le _), Nat.sub_zero]
        split
        · rename_i v hv
          obtain ⟨cc, k1, k2⟩ := repT_get vs args k v hargs2 hv
          have hk : k < args.length := (List.getElem?_eq_some_iff.1 k1).1
          have : (args.toArray ++ Array.replicate (fn.ntmps - args.toArray.size) Go.undef).getD k Go.undef = cc := by
            rw [Array.getD_eq_getD_getElem?, Array.getElem?_append_left (by simpa using hk)]
            simp [k1]
          dsimp only
          rw [this]
          exact rep_of_rep1 k2
        · trivial
      sz := by simp; omega
      df := rfl
      fr := fr_push R.fr [none] ▸ R.fr
      fh := fr_push R.fh [Blk.keep e0 s] ▸ R.fh }
    refine calls_of_wp hf hb (wp_mono (code_sound hT hm c _ _ _ _ _ _ hN (H s) R1) fun x a' w' hx => ?_)
    have fin : ∀ (e' : Env) (h' : List Blk) (M' : MM), retV tt fn.results.toList e' h' (inK h.length s K h') → Rep B X fn.ntmps M' e' h' a' w' →
        a'.defers = [] ∧ ∃ cv, (results fn a'.tmps).run P w' = .ok cv w' ∧ ∃ v cv' e' h' M', Ending.returned cv = .returned cv' ∧ K v e' h' ∧ Rep B X N M' e' h' a w' ∧ rep w' M' h' v cv' := by
      intro e' h' M' hr R'
      obtain ⟨va, cv, h1, h2, h3⟩ := ret_rep hT R' hr
      refine ⟨R'.df, cv, h3, ?_⟩
      unfold inK at h1
      split at h1
      · rename_i e2 f2 hk
        obtain ⟨rfl, h1⟩ := h1
        have hl' : h.length < h'.length := (List.getElem?_eq_some_iff.1 hk).1
        obtain ⟨m, hm'⟩ := at_lt (xs := M') (k := h.length) (by rw [R'.inv.len]; exact hl')
        have hkeep := R'.inv.blk h.length _ _ hk hm'
        have hpos : 0 < h.length := by
          have := (List.getElem?_eq_some_iff.1 R.fh).1
          exact this
        have hnof : ∀ c, nOf (h'.set h.length .gone) c = nOf h' c := fun c => by
          unfold nOf
          by_cases hc : c = h.length
          · subst hc
            rw [List.getElem?_set_self hl', hk]
          · rw [List.getElem?_set_ne (Ne.symm hc)]
        have mv' : Mv (fun _ => True) w' M' h' w' M' (h'.set h.length .gone) := {
          ext := fun b hb _ => ⟨hb, rfl⟩
          ids := fun b g F _ hb => ⟨F, hb⟩
          row := fun b g F arr t _ _ hg => ⟨arr, hg, rfl⟩
          nof := fun b g F _ _ => hnof b
          sz := Nat.le_refl _ }
        have hgetn : ∀ (b : Nat) (k : Blk), (h'.set h.length .gone)[b]? = some k → (b = h.length ∧ k = .gone) ∨ h'[b]? = some k := fun b k hk2 => by
          by_cases hc : b = h.length
          · subst hc
            rw [List.getElem?_set_self hl'] at hk2
            cases hk2
            exact .inl ⟨rfl, rfl⟩
          · rw [List.getElem?_set_ne (Ne.symm hc)] at hk2
            exact .inr hk2
        have hI' : MInv B.heap.size w' M' (h'.set h.length .gone) := {
          len := by simp [R'.inv.len]
          blk := fun b k m hk2 hm2 => by
            rcases hgetn b k hk2 with ⟨_, rfl⟩ | hk3
            · trivial
            · exact BRep_mv mv' (by cases k <;> first | trivial | exact V.inS_all _ | exact inSE_all _) (fun _ _ => rfl) (R'.inv.blk b k m hk3 hm2)
          nd := R'.inv.nd
          lo := fun b k m hk2 hm2 hl2 => by
            rcases hgetn b k hk2 with ⟨_, rfl⟩ | hk3
            · cases hl2
            · exact R'.inv.lo b k m hk3 hm2 hl2
          hi := R'.inv.hi }
        refine ⟨va, cv, e2, h'.set h.length .gone, M', rfl, h1, ⟨R'.ext, hI', fun k => ?_, R.sz, R.df, R'.fr, ?_⟩, rep_mv mv' _ _ (V.inS_all _) h2⟩
        · exact rep_mv mv' _ _ (V.inS_all _) (hkeep k)
        · rw [List.getElem?_set_ne (by omega)]
          exact R'.fh
      · exact h1.elim
    cases x with
    | normal => obtain ⟨e, h, M, k1, k2⟩ := hx; exact fin e h M k1 k2
    | ret => obtain ⟨e, h, M, k1, k2⟩ := hx; exact fin e h M k1 k2
    | exit id => obtain ⟨e, h, M, k1, k2⟩ := hx; exact k1.elim
    | goto l => exact hx.elim
    | panic => exact hx.elim
    | outgrown => exact hx.elim
theorem CallW.inl {P : Program} {tt : TT} (hT : TOk P tt) (hm : P.follows .mixedOrders = true) {f : FuncId} {fn : Func} {c : Code} (hf : P.funcs[f]? = some fn) (hb : fn.body = some c) (hname : (fn.name == "runtime.NumGoroutine") = false)
    (hN : codeB fn.ntmps c = true) {vs : List V} {e : Env} {h : List Blk} {K : V → Env → List Blk → Prop} (hA : Nat.ble vs.length fn.ntmps = true)
    (H : ∀ s : Nat → Value, wpC P tt c (inQ tt fn.results.toList h.length s K) (argE 0 vs) (h ++ [.keep e s])) : CallW P false f vs e h K :=
  ⟨.inr ⟨rfl, CallM.inl hT hm hf hb hname hN hA e (fun k => .inr rfl) H⟩⟩
theorem CallW.inl' {P : Program} {tt : TT} (hT : TOk P tt) (hm : P.follows .mixedOrders = true) {f : FuncId} {fn : Func} {c : Code} (hf : P.funcs[f]? = some fn) (hb : fn.body = some c) (hname : (fn.name == "runtime.NumGoroutine") = false)
    (hN : codeB fn.ntmps c = true) {vs : List V} {e : Env} {h : List Blk} {K : V → Env → List Blk → Prop} (hA : Nat.ble vs.length fn.ntmps = true) (e0 : Env) (he0 : cov e e0)
    (H : ∀ s : Nat → Value, wpC P tt c (inQ tt fn.results.toList h.length s K) (argE 0 vs) (h ++ [.keep e0 s])) : CallW P false f vs e h K :=
  ⟨.inr ⟨rfl, CallM.inl hT hm hf hb hname hN hA e0 (cov_get e0 he0) H⟩⟩
theorem Rep.give {B : World} {X : List Nat} {N : Nat} {M : MM} {e : Env} {h : List Blk} {a : Act} {w : World} (R : Rep B X N M e h a w) {b n off len : Nat} {xs : List D} {dp : Bool} {cv : Value} (hb0 : b ≠ 0) (hb : h[b]? = some (.arr n xs dp)) (hl : off + len ≤ xs.length)
    (H : ownR w M h b off len cv) : ∃ M', Rep B X N M' (dropE [b] e) ((dropK [b] h).set b (.arr n [] true)) a w ∧ repD M'.O w (.lst ((xs.drop off).take len)) [cv] := by
  have hbl : b < M.length := by rw [R.inv.len]; exact (List.getElem?_eq_some_iff.1 hb).1
  have hM : M[b]? = some M[b] := List.getElem?_eq_getElem hbl
  generalize M[b] = m0 at hM
  obtain ⟨M', R', -, mv, hO⟩ := R.reset (w' := w) (m' := none) (k' := .arr n [] true) R.ext hM hb0 hb (.inl rfl) [] [b] (by simp) (by simp) (by simp) (by simp) (by simp [mO]) (by simp [mO]) (by simp [mO]) (Nat.le_refl _) (fun _ _ _ => rfl) rfl (fun q => absurd (by simp) q) (fun _ _ _ => rfl)
  simp only [goneL] at R'
  refine ⟨M', R', ?_⟩
  have hout : ∀ x ∈ mO m0, x ∉ MM.O M' := fun x hx hm => by
    rcases hO x hm with q | ⟨c, m, c1, -, c2, c3⟩
    · simp [mO] at q
    · exact c1 (O_block_inj R.inv hM c2 hx c3)
  have hsub : ∀ x, x ∉ M.O → x ∉ MM.O M' := fun x hx hm => by
    rcases hO x hm with q | ⟨c, m, -, -, c2, c3⟩
    · simp [mO] at q
    · exact hx (mem_O c2 c3)
  obtain ⟨ad, cap, rfl, h1, h2, h3, h4⟩ := H
  have hlen : ((xs.drop off).take len).length = len := by simp; omega
  refine ⟨ad, cap, n, by rw [hlen], by rw [hlen]; exact h1, h2, h3, ?_⟩
  rcases h4 with h4 | ⟨g, F, arr, t, m1, rfl, m3, m4⟩
  · have : (xs.drop off).take len = [] := by
      have : len = 0 := by omega
      rw [this]; rfl
    rw [this]; trivial
  · have hn : nOf h b = n := by simp [nOf, hb]
    rw [hn]
    rw [hM] at m1
    cases m1
    obtain ⟨arr', t', k1, k2, k3⟩ := R.inv.blk b _ _ hb hM
    rw [m3] at k1
    cases k1
    have hext : extDe M'.O w arr n xs 0 := by
      cases dp with
      | true =>
        rw [if_pos rfl] at k3
        have key : ∀ (xs : List D) (i : Nat) (F : List Nat), (∀ b ∈ F, b ∉ MM.O M') → ownDe w arr n xs i F → extDe (MM.O M') w arr n xs i := by
          intro xs
          induction xs with
          | nil => intro i F _ _; trivial
          | cons x xs ih =>
            intro i F hF ⟨F1, F2, ces, e, q1, q2, q3, q4⟩
            subst e
            exact ⟨⟨ces, q1, q2, ownD_rep x F1 ces (fun b hb => hF b (by simp [hb])) q3⟩, ih (i + 1) F2 (fun b hb => hF b (by simp [hb])) q4⟩
        exact key xs 0 F (fun b hb => hout b (by simp [mO, hb])) k3
      | false =>
        rw [if_neg (by simp)] at k3
        exact extDe_mv (w' := w) (fun b hb _ => ⟨hsub b hb, rfl⟩) xs 0 k3.2
    refine (repDe_get _ 0).2 fun i x hx => ?_
    have hi : i < len := by have := (List.getElem?_eq_some_iff.1 hx).1; omega
    rw [List.getElem?_take, if_pos hi, List.getElem?_drop] at hx
    obtain ⟨ces, q1, q2, q3⟩ := extDe_get xs 0 hext _ x hx
    refine ⟨g, off * n, ces, rfl, hout g (by simp [mO]), lt_of_heap m3, fun j v hj => ?_, q1, q3⟩
    have := q2 j v hj
    rw [Nat.zero_add, Nat.add_mul, Nat.add_assoc] at this
    rw [Nat.zero_add]
    simp only [World.cell?, m3, Nat.add_assoc]
    exact this
theorem CallW.give {P : Program} {f : FuncId} {v : V} {bs : List Blk} {xs : List D} (pc : PC P f [.d (.lst xs)] v bs) {b n len : Nat} {dp : Bool} {e : Env} {h : List Blk} {K : V → Env → List Blk → Prop} (hb : h[b]? = some (.arr n xs dp)) (hb0 : Nat.ble 1 b = true) (hl : len = xs.length)
    (hf : (v.fit false && fitBs false bs && Nat.ble 1 h.length) = true) (H : K (v.shift (h.length - 1)) (dropE [b] e) ((dropK [b] h).set b (.arr n [] true) ++ shiftBs (h.length - 1) bs)) : CallW P false f [.own b 0 len] e h K := by
  refine ⟨.inr ⟨rfl, pc.fn, fun B X N M a w args R hargs => ?_⟩⟩
  obtain ⟨c0, args, rfl, h1, h2⟩ := hargs
  cases (show args = [] from h2)
  have hb1 := Nat.le_of_ble_eq_true hb0
  subst hl
  obtain ⟨M', R', hd⟩ := R.give (by omega) hb (off := 0) (len := xs.length) (by omega) (rep_own.1 (rep_of_rep1 h1))
  rw [List.drop_zero, List.take_length] at hd
  have hlen : ((dropK [b] h).set b (Blk.arr n [] true)).length = h.length := by simp [dropK_len]
  refine (call_sound R' (vs := [.d (.lst xs)]) (args := [c0]) ⟨c0, [], rfl, rep1_of_rep rfl hd, rfl⟩ (K := fun v h' => K v (dropE [b] e) h') ⟨⟨_, v, bs, pc, ⟨_, _, rfl, rfl, rfl⟩, ?_, ?_⟩⟩).2.mono ?_
  · rw [hlen]; exact hf
  · rw [hlen]; exact H
  · rintro en w' ⟨v', cv, h', M2, rfl, k1, -, k2, k3⟩
    exact ⟨v', cv, _, h', M2, rfl, k1, k2, k3⟩
structure Hd (Q : Prop) : Prop where
  out : Q
theorem stg_ {P Q : Prop} (H : Q) (h : Hd Q → P := by
  (intro H
   first
    | ((with_reducible apply IxW.id); apply IxW.map; (focus assumption))
    | ((with_reducible apply IoW.id); apply IoW.at; (focus omega); (focus omega))
    | ((with_reducible apply ArW.id); apply ArW.i64; (focus omega))
    | ((with_reducible apply ArW.id); apply ArW.u64; (focus omega))
    | ((with_reducible apply ArW.id); apply ArW.u32; (focus omega))
    | ((with_reducible apply ArW.id); apply ArW.u8; (focus omega))
    | ((with_reducible apply EqW.id); apply EqW.at; (focus (first | rfl | omega | (simp; done))))
    | ((with_reducible apply FlW.id); apply FlW.map; (focus (intro y; exact ⟨rfl, rfl⟩)))
    | ((with_reducible apply FlW.id); apply FlW.mapX; (focus (intro y; rfl)))
    | ((with_reducible apply SzW.id); apply SzW.map; (focus (intro y; rfl)))
    | ((with_reducible apply ApW.id); apply ApW.at; (focus (first | omega | (simp only [maxLen, List.length_cons, List.length_nil, List.length_map, List.length_append, List.length_take, List.length_drop, Nat.reduceMul, Nat.reduceAdd]; omega) | (simp [maxLen]; done) | (simp [maxLen]; omega))); (focus ((conv => lhs; arg 2; whnf); (first | omega | (simp only [maxLen, List.length_cons, List.length_nil, List.length_map, List.length_append, List.length_take, List.length_drop, Nat.reduceMul, Nat.reduceAdd]; omega) | (simp [maxLen]; done) | (simp [maxLen]; omega)))))
    | ((with_reducible apply MkW.id); apply MkW.at; (focus (first | omega | (simp only [maxLen, List.length_cons, List.length_nil, List.length_map, List.length_append, List.length_take, List.length_drop, Nat.reduceMul, Nat.reduceAdd]; omega) | (simp [maxLen]; done) | (simp [maxLen]; omega))); (focus (first | omega | (simp only [maxLen, List.length_cons, List.length_nil, List.length_map, List.length_append, List.length_take, List.length_drop, Nat.reduceMul, Nat.reduceAdd]; omega) | (simp [maxLen]; done) | (simp [maxLen]; omega))); (focus (first | omega | (simp only [maxLen, List.length_cons, List.length_nil, List.length_map, List.length_append, List.length_take, List.length_drop, Nat.reduceMul, Nat.reduceAdd]; omega) | (simp [maxLen]; done) | (simp [maxLen]; omega))))
    | ((with_reducible apply EoW.id); apply EoW.at; (focus assumption))
    | ((with_reducible apply NzW.id); apply NzW.mk'; (focus omega))
    | ((with_reducible apply OffW.id); apply OffW.at; (focus (first | omega | (simp only [maxLen, List.length_cons, List.length_nil, List.length_map, List.length_append, List.length_take, List.length_drop, Nat.reduceMul, Nat.reduceAdd]; omega) | (simp [maxLen]; done) | (simp [maxLen]; omega))))
    | ((with_reducible apply BnW.id); apply BnW.at; (focus omega))
    | ((with_reducible apply SlW.id); apply SlW.at; (focus (first | omega | (simp only [maxLen, List.length_cons, List.length_nil, List.length_map, List.length_append, List.length_take, List.length_drop, Nat.reduceMul, Nat.reduceAdd]; omega) | (simp [maxLen]; done) | (simp [maxLen]; omega))); (focus (first | omega | (simp only [maxLen, List.length_cons, List.length_nil, List.length_map, List.length_append, List.length_take, List.length_drop, Nat.reduceMul, Nat.reduceAdd]; omega) | (simp [maxLen]; done) | (simp [maxLen]; omega))))
    | ((with_reducible apply TkW.id); apply TkW.at; (focus (first | rfl | exact (List.length_map _).symm | exact List.length_replicate.symm)))
    | ((with_reducible apply LtW.id); apply LtW.at; (focus omega))
    | ((with_reducible apply ChW.id); apply ChW.at; (focus omega); (focus assumption))
    | ((with_reducible apply RegD.id); apply RegD.auto; (focus kernel_rfl))
   (conv => whnf)
   exact H.out)) : P := h ⟨H⟩
theorem br_ {b : Bool} {A B A' B' p q : Prop} (h1 : p → A') (h2 : q → B') (e1 : b = true → p := by (intro h; (try simp only [decide_eq_true_eq, decide_eq_false_iff_not, Bool.not_eq_true', Bool.not_eq_false', bne_iff_ne, ne_eq, beq_iff_eq, bne_eq_false_iff_eq, beq_eq_false_iff_ne, Decidable.not_not, Nat.not_lt, Nat.not_le, Int.not_lt, Int.not_le, Bool.and_eq_true, Bool.and_eq_false_iff, Bool.or_eq_true, Bool.or_eq_false_iff] at h); exact h)) (e2 : b = false → q := by (intro h; (try simp only [decide_eq_true_eq, decide_eq_false_iff_not, Bool.not_eq_true', Bool.not_eq_false', bne_iff_ne, ne_eq, beq_iff_eq, bne_eq_false_iff_eq, beq_eq_false_iff_ne, Decidable.not_not, Nat.not_lt, Nat.not_le, Int.not_lt, Int.not_le, Bool.and_eq_true, Bool.and_eq_false_iff, Bool.or_eq_true, Bool.or_eq_false_iff] at h); exact h))
    (w1 : A' → A := by (intro H; (conv => whnf); exact H)) (w2 : B' → B := by (intro H; (conv => whnf); exact H)) : BIf b A B := BIf.mk (fun h => w1 (h1 (e1 h))) (fun h => w2 (h2 (e2 h)))
section
variable {P : Program} {dr : Bool} {f : FuncId} {vs : List V} {e : Env} {h : List Blk} {K : V → Env → List Blk → Prop} {As : List V} {v : V} {bs : List Blk} {Q : Prop}
theorem cla_ (pc : PC P f As v bs) (H : Q) (hb : borVs h vs As := by ((repeat' (first | exact trivial | with_reducible rfl | ((conv => whnf); first | done | exact trivial | with_reducible rfl | (exact Or.inr ⟨rfl, rfl, rfl, rfl⟩) | (refine Or.inl ⟨_, rfl, ?_⟩) | (refine ⟨rfl, _, rfl, ?_⟩) | (refine ⟨_, _, rfl, ?_, ?_⟩) | (refine ⟨_, rfl, ?_⟩) | ((refine ⟨?_, ?_⟩); (focus (first | (simp; done) | omega)); (focus ((first | rw [List.drop_zero, List.take_of_length_le (Nat.le_of_eq (List.length_map _))] | rw [List.drop_zero, List.take_of_length_le (by omega)] | rfl); done))) | rfl))); (first | done | fail))) (hf : (v.fit (!V.exts vs) && fitBs (!V.exts vs) bs && Nat.ble 1 h.length) = true := by rfl)
    (hk : Q → K (v.shift (h.length - 1)) e (h ++ shiftBs (h.length - 1) bs) := by (intro H; (conv => whnf); exact H)) : CallW P dr f vs e h K := CallW.use pc hb hf (hk H)
theorem cl_ (pc : PC P f As v bs) (H : Q) (hb : borVs h vs As := by ((repeat ((conv => whnf); (refine ⟨_, _, rfl, ?_, ?_⟩); (focus (first | ((conv => whnf); done) | ((conv => whnf); first | exact ⟨_, rfl, rfl⟩ | exact ⟨rfl, _, rfl, rfl⟩))))); (conv => whnf))) (hf : (v.fit (!V.exts vs) && fitBs (!V.exts vs) bs && Nat.ble 1 h.length) = true := by rfl)
    (hk : Q → K (v.shift (h.length - 1)) e (h ++ shiftBs (h.length - 1) bs) := by (intro H; (conv => whnf); exact H)) : CallW P dr f vs e h K := CallW.use pc hb hf (hk H)
end
theorem covT_ {e e' : Env} {h h' : List Blk} (h1 : cov e e' := by repeat' (first | exact trivial | with_reducible rfl | (refine ⟨?_, ?_⟩) | rfl)) (h2 : covH h h' := by repeat' (first | exact trivial | with_reducible rfl | (refine ⟨?_, ?_⟩) | rfl))
    (h3 : (scE h' e' && scH h' h' && (match h' with | .gone :: _ => true | _ => false)) = true := by rfl) : Weak e h e' h' := Weak.cov h1 h2 h3
end Go.Proofs.YtdeafbgnbgihgaaDoor