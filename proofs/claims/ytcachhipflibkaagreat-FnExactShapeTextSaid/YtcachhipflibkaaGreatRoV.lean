/- merged: several parts in one text. Leans on no more than they do. -/
import Derived.Test.YtcachhipflibkaaGreatVMTac
import Derived.Test.YtcachhipflibkaaGreatVMK
import Derived.Test.YtcachhipflibkaaGreatGsZ
import Derived.Test.YtcachhipflibkaaGreatFtX
import Derived.Test.YtcachhipflibkaaGreatFiP
set_option linter.unusedSimpArgs false
set_option linter.unusedVariables false
namespace Go.Proofs.YtcachhipflibkaaGreat
open Go.RowKit
def V.isD : V → Bool
  | .d _ => true
  | _ => false
def V.isDs : List V → Bool
  | [] => true
  | v :: vs => v.isD && V.isDs vs
def mpF (es : List (D × D)) : Prop := ∀ p ∈ es, p.1.flat = true ∧ p.2.flat = true
def V.resT : V → Bool
  | .tup vs => plains vs
  | v => v.plain
theorem mpF_nil : mpF [] := fun _ h => by simp at h
theorem mpF_upd {q z : D} (hq : q.flat = true) (hz : z.flat = true) : ∀ {es : List (D × D)}, mpF es → mpF (updD es q z)
  | [], _, p, hp => by
    simp only [updD, List.mem_singleton] at hp
    subst hp
    exact ⟨hq, hz⟩
  | (k, v) :: es, h, p, hp => by
    simp only [updD] at hp
    cases hc : keyE q k with
    | true =>
      rw [hc] at hp
      rcases List.mem_cons.1 hp with rfl | hp
      · exact ⟨hq, hz⟩
      · exact h p (by simp [hp])
    | false =>
      rw [hc] at hp
      rcases List.mem_cons.1 hp with rfl | hp
      · exact h _ (by simp)
      · exact mpF_upd hq hz (es := es) (fun p hp => h p (by simp [hp])) p hp
theorem resT_rep {w w' : World} {M M' : MM} {h h' : List Blk} {v : V} {cv : Value} (hp : v.resT = true) (H : rep w M h v cv) : rep w' M' h' v cv := by
  cases v with
  | tup vs =>
    obtain ⟨cvs, e, H⟩ := H
    exact ⟨cvs, e, plains_rep vs cvs hp H⟩
  | d x => exact rep_of_rep1 (plain_rep (v := .d x) hp (rep1_of_rep rfl H))
  | _ => cases hp
theorem isD_rep {w : World} {M M' : MM} {h h' : List Blk} (hO : ∀ b, b ∉ M.O → b < w.heap.size → b ∉ M'.O) {v : V} {cv : Value} (hp : v.isD = true) (H : rep1 w M h v cv) : rep1 w M' h' v cv := by
  cases v with
  | d x =>
    have key : ∀ cs : List Value, repC w M h (.d x) cs → repC w M' h' (.d x) cs := fun cs hc => repD_mv (fun b h1 h2 => ⟨hO b h1 h2, rfl⟩) x cs hc
    unfold rep1 at H ⊢
    split at H
    · rename_i ha
      rw [if_pos ha]
      obtain ⟨cs, e, H⟩ := H
      exact ⟨cs, e, key cs H⟩
    · rename_i ha
      rw [if_neg ha]
      exact key _ H
  | _ => cases hp
theorem isDs_rep {w : World} {M M' : MM} {h h' : List Blk} (hO : ∀ b, b ∉ M.O → b < w.heap.size → b ∉ M'.O) : ∀ (vs : List V) (cs : List Value), V.isDs vs = true → repT w M h vs cs → repT w M' h' vs cs
  | [], cs, _, H => H
  | v :: vs, cs, hp, H => by
    simp only [V.isDs, Bool.and_eq_true] at hp
    obtain ⟨c, cs', e, h1, h2⟩ := H
    exact ⟨c, cs', e, isD_rep hO hp.1 h1, isDs_rep hO vs cs' hp.2 h2⟩
theorem repT_snoc {w : World} {M : MM} {h : List Blk} {u : V} : ∀ (vs : List V) (cs : List Value), repT w M h (vs ++ [u]) cs → ∃ cs' c, cs = cs' ++ [c] ∧ repT w M h vs cs' ∧ rep1 w M h u c
  | [], cs, H => by
    obtain ⟨c, cs', rfl, h1, h2⟩ := H
    cases h2
    exact ⟨[], c, rfl, rfl, h1⟩
  | v :: vs, cs, H => by
    obtain ⟨c, cs', rfl, h1, h2⟩ := H
    obtain ⟨cs2, c2, rfl, k1, k2⟩ := repT_snoc vs cs' h2
    exact ⟨c :: cs2, c2, rfl, ⟨c, cs2, rfl, h1, k1⟩, k2⟩
theorem repT_snoc' {w : World} {M : MM} {h : List Blk} {u : V} {c : Value} (hu : rep1 w M h u c) : ∀ (vs : List V) (cs : List Value), repT w M h vs cs → repT w M h (vs ++ [u]) (cs ++ [c])
  | [], cs, H => by
    cases H
    exact ⟨c, [], rfl, hu, rfl⟩
  | v :: vs, cs, H => by
    obtain ⟨c1, cs', rfl, h1, h2⟩ := H
    exact ⟨c1, cs' ++ [c], rfl, h1, repT_snoc' hu vs cs' h2⟩
theorem entR_any {w : World} {M M' : MM} {h h' : List Blk} : ∀ {es : List (D × D)} {l : List MapEntry}, mpF es → entR w M h es l → entR w M' h' es l
  | [], _, _, H => H
  | (k, v) :: es, l, hf, H => by
    obtain ⟨x, l', e, h1, h2, h3⟩ := H
    have hp := hf (k, v) (by simp)
    exact ⟨x, l', e, plain_rep (v := .d k) hp.1 h1, plain_rep (v := .d v) hp.2 h2, entR_any (fun p hp => hf p (by simp [hp])) h3⟩
theorem wfVs_left {u : V} : ∀ {vs : List V}, wfVs (vs ++ [u]) → wfVs vs
  | [], _ => trivial
  | _ :: _, H => ⟨H.1, wfVs_left H.2⟩
structure PM (P : Program) (f : FuncId) (tg : Option IntKind) (es : List (D × D)) (rest : List V) (v : V) (Q : List (D × D) → Prop) : Prop where
  fn : ∃ fn, P.funcs[f]? = some fn ∧ (fn.name == "runtime.NumGoroutine") = false ∧ fn.body.isNone = false
  fl : mpF es
  flq : ∀ es', Q es' → mpF es'
  run : ∀ (w : World) (g : Nat) (ents : Array MapEntry) (ck : Nat) (args : List Value), w.heap[g]? = some (.map ents ck) → (∀ p ∈ es, keyK tg p.1 = true) → entR w [none] [.gone] es ents.toList → repT w [some (g, [])] [.gone] rest args →
    Calls P f (args ++ [Value.map (some g)]).toArray w fun en w' => ∃ cv es' ents' ck', en = .returned cv ∧ rep w' [none] [.gone] v cv ∧ Kept w w' [g] [g] ∧ Q es' ∧ w'.heap[g]? = some (.map ents' ck') ∧ (∀ p ∈ es', keyK tg p.1 = true) ∧ entR w' [none] [.gone] es' ents'.toList
theorem PM.call {P : Program} {f : FuncId} {tg : Option IntKind} {es : List (D × D)} {rest : List V} {v : V} {Q : List (D × D) → Prop} (pm : PM P f tg es rest v Q) {b : Nat} {e : Env} {h : List Blk} {K : V → Env → List Blk → Prop}
    (hb : h[b]? = some (.mp tg es)) (hb0 : Nat.ble 1 b = true) (hr : V.isDs rest = true) (hv : v.resT = true) (H : ∀ es', Q es' → K v e (h.set b (.mp tg es'))) : CallM P f (rest ++ [.pB b [] 1000000007]) e h K where
  fn := pm.fn
  run B X N M a w args R hargs := by
    obtain ⟨args1, cm, rfl, h1, h2⟩ := repT_snoc rest args hargs
    have hb1 : 1 ≤ b := Nat.le_of_ble_eq_true hb0
    obtain ⟨g, F, hM, rfl⟩ := rep_pB.1 (rep_of_rep1 h2)
    obtain ⟨rfl, hK, ents, ck, hg, hent⟩ := R.inv.blk b _ _ hb hM
    rw [show pbv g 1000000007 = .map (some g) from rfl]
    have hgO : g ∈ M.O := mem_O hM (by simp [mO])
    refine (pm.run w g ents ck args1 hg hK (entR_any pm.fl hent) (isDs_rep (fun b h1 _ => by
      rw [O_one]
      intro q
      have : b = g := by simpa [mO] using q
      subst this
      exact h1 hgO) rest args1 hr h1)).mono ?_
    rintro en w' ⟨cv, es', ents', ck', rfl, q1, q2, q3, q4, q5, q6⟩
    have hxB : Ext B w' := by
      have hlo := R.inv.lo b _ _ hb hM rfl
      refine Below.trans R.ext ⟨q2.os, q2.tape, q2.output, q2.size, fun k hk => q2.ch k (Nat.lt_of_lt_of_le hk R.base) (fun hm => ?_)⟩
      have hkg : k = g := by simpa using hm
      have := hlo g (by simp [mO])
      omega
    have hnof : nOf (h.set b (.mp tg es')) b = nOf h b := by
      unfold nOf
      rw [List.getElem?_set_self (List.getElem?_eq_some_iff.1 hb).1, hb]
    obtain ⟨M', R', _, _⟩ := R.reset (w' := w') hxB hM (by omega) hb (.inl rfl) [] [] (by simp) (by simp) (by simp) (by simp) (m' := some (g, [])) (by simp [mO])
      (fun x hx => .inl hx) (fun x hx => by
        have : x = g := by simpa [mO] using hx
        subst this
        exact lt_of_heap q4) q2.size (fun x hx hxm => q2.ch x hx (by simpa [mO] using hxm)) (k' := .mp tg es') rfl
      (fun _ g1 F1 e1 => by
        cases e1
        refine ⟨⟨[], rfl⟩, hnof, fun arr1 t1 hg1 => ?_⟩
        rw [hg] at hg1
        cases hg1)
      (fun M' h' _ => ⟨rfl, q5, ents', ck', q4, entR_any (pm.flq es' q3) q6⟩)
    exact ⟨v, cv, e, _, M', rfl, H es' q3, R', resT_rep hv q1⟩
theorem CallW.useM {P : Program} {f : FuncId} {tg : Option IntKind} {es : List (D × D)} {rest : List V} {v : V} {Q : List (D × D) → Prop} (pm : PM P f tg es rest v Q) {b : Nat} {e : Env} {h : List Blk} {K : V → Env → List Blk → Prop} {vs : List V} (hvs : vs = rest ++ [.pB b [] 1000000007])
    (hb : h[b]? = some (.mp tg es)) (hb0 : Nat.ble 1 b = true) (hr : V.isDs rest = true) (hv : v.resT = true) (H : ∀ es', Q es' → K v e (h.set b (.mp tg es'))) : CallW P false f vs e h K := by
  subst hvs
  exact ⟨.inr ⟨rfl, pm.call hb hb0 hr hv H⟩⟩
def mQ (tt : TT) (rs : List ResultVar) (tg : Option IntKind) (v : V) (Q : List (D × D) → Prop) (G : Blk) : Post
  | .normal => fun e h => retV tt rs e h fun va => va = v ∧ ∃ es' r, h = .gone :: G :: .mp tg es' :: r ∧ Q es'
  | .ret => fun e h => retV tt rs e h fun va => va = v ∧ ∃ es' r, h = .gone :: G :: .mp tg es' :: r ∧ Q es'
  | .exit _ => fun _ _ => False
theorem pm_intro {P : Program} {tt : TT} (hT : TOk P tt) (hm : P.follows .mixedOrders = true) {f : FuncId} {fn : Func} {c : Code} (hf : P.funcs[f]? = some fn) (hb : fn.body = some c) (hname : (fn.name == "runtime.NumGoroutine") = false)
    (hN : codeB fn.ntmps c = true) {tg : Option IntKind} {es : List (D × D)} {rest : List V} (hA : Nat.ble (rest.length + 1) fn.ntmps = true) {v : V} {Q : List (D × D) → Prop} (hrd : V.isDs rest = true) (hv : v.resT = true) (hfl : mpF es) (hfq : ∀ es', Q es' → mpF es')
    (H : ∀ (k : Nat → Option Obj) (s g : Nat) (t : TypeId), wfVs rest → wpC P tt c (mQ tt fn.results.toList tg v Q (.gho k s g 0 t)) (argE 0 (rest ++ [.pB 2 [] 1000000007])) [.gone, .gho k s g 0 t, .mp tg es]) : PM P f tg es rest v Q where
  fn := ⟨fn, hf, hname, by rw [hb]; rfl⟩
  fl := hfl
  flq := hfq
  run := fun w g ents ck args0 hg hK hent hargs => by
    have t : TypeId := by
      have := fn.ntmps
      exact (0 : Nat)
    have hO : MM.O [none, none, some (g, [])] = [g] := by simp [MM.O, mO]
    have hO1 : MM.O [some (g, [])] = [g] := by simp [MM.O, mO]
    have hglt := lt_of_heap hg
    let fr : Nat → Option Obj := fun b => if b ∈ [g] then none else w.heap[b]?
    have hfr : ∀ b o, fr b = some o → b ∉ [g] ∧ w.heap[b]? = some o := fun b o hc => by
      simp only [fr] at hc
      split at hc
      · cases hc
      · rename_i hm'; exact ⟨hm', hc⟩
    have hlenT : ∀ {M : MM} {h : List Blk} (vs : List V) (cs : List Value), repT w M h vs cs → cs.length = vs.length := by
      intro M h vs
      induction vs with
      | nil => intro cs H; cases H; rfl
      | cons v vs ih => intro cs H; obtain ⟨c, cs', rfl, _, h2⟩ := H; simp [ih _ h2]
    have hA' := Nat.le_of_ble_eq_true hA
    have hargs1 : repT w [none, none, some (g, [])] [.gone, .gho fr w.heap.size g 0 t, .mp tg es] rest args0 := isDs_rep (fun b h1 _ => by rw [hO]; rw [hO1] at h1; exact h1) rest args0 hrd hargs
    have hargs2 : repT w [none, none, some (g, [])] [.gone, .gho fr w.heap.size g 0 t, .mp tg es] (rest ++ [.pB 2 [] 1000000007]) (args0 ++ [Value.map (some g)]) :=
      repT_snoc' (rep1_of_rep rfl (rep_pB.2 ⟨g, [], rfl, rfl⟩)) rest args0 hargs1
    have hl := hlenT _ _ hargs2
    generalize hargs0 : args0 ++ [Value.map (some g)] = args at *
    have R : Rep { w with heap := #[] } [] fn.ntmps [none, none, some (g, [])] (argE 0 (rest ++ [.pB 2 [] 1000000007])) [.gone, .gho fr w.heap.size g 0 t, .mp tg es]
        { tmps := args.toArray ++ Array.replicate (fn.ntmps - args.toArray.size) Go.undef, defers := [] } w := {
      ext := ⟨rfl, rfl, rfl, Nat.zero_le _, fun k hk => by simp at hk⟩
      inv := ⟨rfl, fun b k m hk hm => by
          match b, hk, hm with
          | 0, hk, hm => simp at hk; subst hk; trivial
          | 1, hk, hm =>
            simp at hk hm
            subst hk
            exact ⟨fun b o hc => by rw [hO]; exact hfr b o hc, Nat.le_refl _, [], rfl, .inl rfl⟩
          | 2, hk, hm =>
            simp at hk hm
            subst hk
            subst hm
            exact ⟨rfl, hK, ents, ck, hg, entR_any hfl hent⟩
          | b + 3, hk, hm => simp at hk, by rw [hO]; simp, fun _ _ _ _ _ _ g' _ => Nat.zero_le _, by
          rw [hO]
          intro x hx
          have : x = g := by simpa using hx
          subst this
          exact hglt⟩
      env := fun k => by
        rw [argE_get, if_pos (Nat.zero_le _), Nat.sub_zero]
        split
        · rename_i v hv
          obtain ⟨cc, q1, q2⟩ := repT_get _ _ k v hargs2 hv
          have hk : k < args.length := (List.getElem?_eq_some_iff.1 q1).1
          have : (args.toArray ++ Array.replicate (fn.ntmps - args.toArray.size) Go.undef).getD k Go.undef = cc := by
            rw [Array.getD_eq_getD_getElem?, Array.getElem?_append_left (by simpa using hk)]
            simp only [List.getElem?_toArray, q1, Option.getD_some]
          dsimp only
          rw [this]
          exact rep_of_rep1 q2
        · trivial
      sz := by simp [hl]; omega
      df := rfl
      fr := rfl
      fh := rfl }
    have hwf : wfVs rest := wfVs_left (repT_wf _ _ hargs2)
    refine calls_of_wp hf hb (wp_mono (code_sound hT hm c _ _ _ _ _ _ hN (H fr w.heap.size g t hwf) R) fun x a' w' hx => ?_)
    have fin : ∀ (e : Env) (h : List Blk) (M : MM), retV tt fn.results.toList e h (fun va => va = v ∧ ∃ es' r, h = .gone :: .gho fr w.heap.size g 0 t :: .mp tg es' :: r ∧ Q es') → Rep { w with heap := #[] } [] fn.ntmps M e h a' w' →
        a'.defers = [] ∧ ∃ cv, (results fn a'.tmps).run P w' = .ok cv w' ∧ ∃ cv' es' ents' ck', Ending.returned cv = .returned cv' ∧ rep w' [none] [.gone] v cv' ∧ Kept w w' [g] [g] ∧ Q es' ∧ w'.heap[g]? = some (.map ents' ck') ∧ (∀ p ∈ es', keyK tg p.1 = true) ∧ entR w' [none] [.gone] es' ents'.toList := by
      intro e h M hr R'
      obtain ⟨va, cv, ⟨rfl, es', r, rfl, hQ⟩, hva, hrun⟩ := ret_rep hT R' hr
      refine ⟨R'.df, cv, hrun, cv, es', ?_⟩
      obtain ⟨m1, hm1⟩ := at_lt (xs := M) (k := 1) (by rw [R'.inv.len]; simp)
      obtain ⟨m2, hm2⟩ := at_lt (xs := M) (k := 2) (by rw [R'.inv.len]; simp)
      obtain ⟨q1, q2, F', q3, _⟩ : (∀ b o, fr b = some o → b ∉ M.O ∧ w'.heap[b]? = some o) ∧ w.heap.size ≤ w'.heap.size ∧ ∃ F', M[2]? = some (some (g, F')) ∧ (0 = 0 ∨ ∃ arr', w'.heap[g]? = some (.cells arr' t (0, 0)) ∧ arr'.size + 1 = 0) := R'.inv.blk 1 _ _ rfl hm1
      obtain ⟨rfl, hK', ents', ck', z1, z2⟩ := R'.inv.blk 2 _ _ rfl q3
      have back : ∀ x, x < w.heap.size → x ∉ [g] → w'.heap[x]? = w.heap[x]? := fun x hx hxm => by
        have e1 : fr x = w.heap[x]? := by simp only [fr]; rw [if_neg hxm]
        have e2 : w.heap[x]? = some w.heap[x] := Array.getElem?_eq_getElem hx
        obtain ⟨u1, u2⟩ := q1 x _ (e1.trans e2)
        rw [u2, e2]
      refine ⟨ents', ck', rfl, resT_rep hv hva, ⟨R'.ext.os, R'.ext.tape, R'.ext.output, q2, back, by simp, fun x hx => .inl hx, fun x hx => ?_⟩, hQ, z1, hK', entR_any (hfq es' hQ) z2⟩
      have : x = g := by simpa using hx
      subst this
      exact lt_of_heap z1
    cases x with
    | normal => obtain ⟨e, h, M, k1, k2⟩ := hx; exact fin e h M k1 k2
    | ret => obtain ⟨e, h, M, k1, k2⟩ := hx; exact fin e h M k1 k2
    | exit id => obtain ⟨e, h, M, k1, k2⟩ := hx; exact k1.elim
    | goto l => exact hx.elim
    | panic => exact hx.elim
    | outgrown => exact hx.elim
structure Topo (ps : List (List Int)) (o : List Int) : Prop where
  rng : ∀ i ∈ o, 0 ≤ i ∧ i.toNat < ps.length
  par : ∀ k i, o[k]? = some i → ∀ p ∈ ps.getD i.toNat [], p ∈ o.take k
theorem Topo.nil (ps : List (List Int)) : Topo ps [] := ⟨by simp, by simp⟩
theorem Topo.step {ps : List (List Int)} {o : List Int} (H : Topo ps o) {i : Nat} (hi : i < ps.length) : Topo ps (ostp ps o i) := by
  unfold ostp
  split
  · exact H
  · split
    · rename_i h1 h2
      refine ⟨fun j hj => ?_, fun k j hk p hp => ?_⟩
      · rw [List.mem_append, List.mem_singleton] at hj
        rcases hj with hj | rfl
        · exact H.rng j hj
        · exact ⟨by omega, by simpa using hi⟩
      · rcases Nat.lt_or_ge k o.length with hlt | hge
        · rw [List.getElem?_append_left hlt] at hk
          have := H.par k j hk p hp
          rw [List.take_append_of_le_length (by omega)]
          exact this
        · rw [List.getElem?_append_right hge] at hk
          have hk0 : k - o.length = 0 := by
            cases hq : k - o.length with
            | zero => rfl
            | succ n => rw [hq] at hk; simp at hk
          rw [hk0] at hk
          have e1 : (i : Int) = j := by simpa using hk
          subst e1
          have e2 : k = o.length := by omega
          subst e2
          rw [List.take_left]
          rw [Int.toNat_natCast] at hp
          exact of_decide_eq_true (List.all_eq_true.1 h2 p hp)
    · exact H
theorem Topo.pass {ps : List (List Int)} {o : List Int} (H : Topo ps o) : ∀ k, k ≤ ps.length → Topo ps (opas ps o k)
  | 0, _ => H
  | k + 1, hk => by rw [opas_succ]; exact (H.pass k (by omega)).step (by omega)
theorem Topo.fin {ps : List (List Int)} : ∀ (f : Nat) {o : List Int}, Topo ps o → Topo ps (oF ps ps.length f o)
  | 0, _, H => H
  | f + 1, _, H => Topo.fin f (H.pass _ (Nat.le_refl _))
theorem Topo.all (ps : List (List Int)) : Topo ps (oAll ps) := Topo.fin _ (Topo.nil ps)
theorem oAll_mem {ps : List (List Int)} (hP : ∀ q ∈ ps, ∀ p ∈ q, 0 ≤ p) (hg : gordB ps = true) {i : Nat} (hi : i < ps.length) : (i : Int) ∈ oAll ps := by
  have H := OrR.fin hP rfl (ps.length + 1) (OrR.start ps.length)
  refine (H.iff i hi).1 (cnt_all (all_cnt hg) i ?_)
  rw [H.bl]; exact hi
theorem oAll_le {ps : List (List Int)} (hP : ∀ q ∈ ps, ∀ p ∈ q, 0 ≤ p) : (oAll ps).length ≤ ps.length := by
  have H := OrR.fin hP rfl (ps.length + 1) (OrR.start ps.length)
  have h1 := H.len
  have h2 := cnt_le (gordF ps (ps.length + 1) (List.replicate ps.length false))
  have h3 := H.bl
  unfold oAll
  omega
def anO (nm : ByteArray) (g : TGlyph) : Option TPt := (g.fAnchors.find? (anEq nm)).map (·.fAt)
def anP (f : Int → Option TPt) : List TPart → Option TPt
  | [] => none
  | p :: ps => match f p.fGlyph with
    | some q => some ⟨q.fX + p.fMove.fX, q.fY + p.fMove.fY⟩
    | none => anP f ps
def anF (gs : List TGlyph) (nm : ByteArray) : Nat → Int → Option TPt
  | 0, _ => none
  | n + 1, i => match gs[i.toNat]? with
    | none => none
    | some g => match anO nm g with
      | some a => some a
      | none => anP (anF gs nm n) g.fParts
theorem anP_congr {f g : Int → Option TPt} : ∀ {ps : List TPart}, (∀ p ∈ ps, f p.fGlyph = g p.fGlyph) → anP f ps = anP g ps
  | [], _ => rfl
  | p :: ps, h => by
    rw [anP, anP, h p (by simp), anP_congr (fun q hq => h q (by simp [hq]))]
structure GsO (gs : List TGlyph) (o : List Int) : Prop where
  topo : Topo (psG gs) o
  mem : ∀ i : Nat, i < gs.length → (i : Int) ∈ o
  len : o.length ≤ gs.length
theorem GsO.part {gs : List TGlyph} {o : List Int} (H : GsO gs o) {k : Nat} {i : Int} (hk : o[k]? = some i) {g : TGlyph} (hg : gs[i.toNat]? = some g) {p : TPart} (hp : p ∈ g.fParts) : ∃ j, j < k ∧ o[j]? = some p.fGlyph := by
  have h1 := H.topo.par k i hk p.fGlyph (by rw [psG_at hg]; exact List.mem_map.2 ⟨p, hp, rfl⟩)
  obtain ⟨j, hj⟩ := List.getElem?_of_mem h1
  rw [List.getElem?_take] at hj
  split at hj
  · exact ⟨j, by assumption, hj⟩
  · cases hj
theorem anF_fuel {gs : List TGlyph} {o : List Int} (H : GsO gs o) (nm : ByteArray) : ∀ (n1 n2 k : Nat) (i : Int), k < n1 → k < n2 → o[k]? = some i → anF gs nm n1 i = anF gs nm n2 i
  | 0, _, _, _, h, _, _ => by omega
  | _ + 1, 0, _, _, _, h, _ => by omega
  | n1 + 1, n2 + 1, k, i, h1, h2, hk => by
    rw [anF, anF]
    cases hg : gs[i.toNat]? with
    | none => rfl
    | some g =>
      dsimp only
      cases anO nm g with
      | some a => rfl
      | none =>
        dsimp only
        refine anP_congr fun p hp => ?_
        obtain ⟨j, hj, hj2⟩ := H.part hk hg hp
        exact anF_fuel H nm n1 n2 j p.fGlyph (by omega) (by omega) hj2
def anV (gs : List TGlyph) (nm : ByteArray) (i : Int) : Option TPt := anF gs nm (gs.length + 1) i
theorem anV_eq {gs : List TGlyph} {o : List Int} (H : GsO gs o) {nm : ByteArray} {k : Nat} {i : Int} (hk : o[k]? = some i) {g : TGlyph} (hg : gs[i.toNat]? = some g) : anV gs nm i = match anO nm g with
    | some a => some a
    | none => anP (anV gs nm) g.fParts := by
  rw [anV, anF, hg]
  dsimp only
  cases anO nm g with
  | some a => rfl
  | none =>
    dsimp only
    refine anP_congr fun p hp => ?_
    obtain ⟨j, hj, hj2⟩ := H.part hk hg hp
    have := (List.getElem?_eq_some_iff.1 hk).1
    have := H.len
    exact anF_fuel H nm _ _ j p.fGlyph (by omega) (by omega) hj2
def ptIn (b : Int) (q : TPt) : Prop := -b ≤ q.fX ∧ q.fX ≤ b ∧ -b ≤ q.fY ∧ q.fY ≤ b
theorem anP_in {f : Int → Option TPt} {b : Int} : ∀ {ps : List TPart} {q : TPt}, (∀ p ∈ ps, ptIn 262144 p.fMove) → (∀ p ∈ ps, ∀ q, f p.fGlyph = some q → ptIn b q) → anP f ps = some q → ptIn (b + 262144) q
  | [], _, _, _, h => by cases h
  | p :: ps, q, hm, hf, h => by
    rw [anP] at h
    cases hp : f p.fGlyph with
    | some z =>
      rw [hp] at h
      cases h
      have h1 := hf p (by simp) z hp
      have h2 := hm p (by simp)
      unfold ptIn at *
      dsimp only
      omega
    | none =>
      rw [hp] at h
      exact anP_in (fun p hp => hm p (by simp [hp])) (fun p hp => hf p (by simp [hp])) h
def gsIn (gs : List TGlyph) : Prop := ∀ g ∈ gs, (∀ a ∈ g.fAnchors, ptIn 262144 a.fAt) ∧ ∀ p ∈ g.fParts, ptIn 262144 p.fMove
theorem anO_in {gs : List TGlyph} (H : gsIn gs) {nm : ByteArray} {g : TGlyph} (hg : g ∈ gs) {q : TPt} (h : anO nm g = some q) : ptIn 262144 q := by
  unfold anO at h
  cases hf : g.fAnchors.find? (anEq nm) with
  | none => rw [hf] at h; cases h
  | some a =>
    rw [hf] at h
    cases h
    exact (H g hg).1 a (List.mem_of_find?_eq_some hf)
theorem anF_in {gs : List TGlyph} (H : gsIn gs) (nm : ByteArray) : ∀ (n : Nat) (i : Int) (q : TPt), anF gs nm n i = some q → ptIn (n * 262144) q
  | 0, _, _, h => by cases h
  | n + 1, i, q, h => by
    rw [anF] at h
    cases hg : gs[i.toNat]? with
    | none => rw [hg] at h; cases h
    | some g =>
      rw [hg] at h
      have hm := List.mem_of_getElem? hg
      dsimp only at h
      cases ha : anO nm g with
      | some a =>
        rw [ha] at h
        cases h
        have := anO_in H hm ha
        unfold ptIn at *
        omega
      | none =>
        rw [ha] at h
        have := anP_in (b := n * 262144) (H g hm).2 (fun p _ q hq => anF_in H nm n p.fGlyph q hq) h
        unfold ptIn at *
        omega
theorem anV_in {gs : List TGlyph} (H : gsIn gs) (hl : gs.length ≤ 40) {nm : ByteArray} {i : Int} {q : TPt} (h : anV gs nm i = some q) : ptIn 10747904 q := by
  have := anF_in H nm _ i q h
  unfold ptIn at *
  omega
theorem anP_cons {f : Int → Option TPt} {ps : List TPart} {k : Nat} {p : TPart} (hp : ps[k]? = some p) : anP f (ps.drop k) = match f p.fGlyph with
    | some q => some ⟨q.fX + p.fMove.fX, q.fY + p.fMove.fY⟩
    | none => anP f (ps.drop (k + 1)) := by
  rw [drop_at hp, anP]
theorem anP_end {f : Int → Option TPt} {ps : List TPart} {k : Nat} (hk : ps.length ≤ k) : anP f (ps.drop k) = none := by
  rw [List.drop_eq_nil_of_le hk]; rfl
theorem anP_some {f : Int → Option TPt} : ∀ {ps : List TPart}, (anP f ps).isSome = ps.any fun p => (f p.fGlyph).isSome
  | [] => rfl
  | p :: ps => by
    rw [anP, List.any_cons]
    cases f p.fGlyph with
    | some q => rfl
    | none => exact anP_some (ps := ps)
def anPt : Option TPt → TPt
  | some p => p
  | none => ⟨0, 0⟩
def anD (o : Option TPt) : D := .st [(anPt o).D, .bool o.isSome]
structure MemoOK (gs : List TGlyph) (nm : ByteArray) (es : List (D × D)) : Prop where
  fl : mpF es
  ok : ∀ (q : Int) (v : D), lkD es (.int .i64 q) = some v → v = anD (anV gs nm q)
theorem MemoOK.nil (gs : List TGlyph) (nm : ByteArray) : MemoOK gs nm [] := ⟨mpF_nil, fun _ _ h => by simp [lkD] at h⟩
theorem MemoOK.put {gs : List TGlyph} {nm : ByteArray} {es : List (D × D)} (H : MemoOK gs nm es) (i : Int) : MemoOK gs nm (updD es (.int .i64 i) (anD (anV gs nm i))) := by
  refine ⟨mpF_upd rfl rfl H.fl, fun q v h => ?_⟩
  rw [lkD_upd] at h
  split at h
  · rename_i hq
    have e : q = i := by simpa [keyE] using hq
    subst e
    cases h
    rfl
  · exact H.ok q v h
def kaP (l r : Int) (k : TKern) : Bool := hasI k.fLeft l && hasI k.fRight r
def kaN (f : TFeatures) (l r : Int) : Int := match f.fKerns.find? (kaP l r) with | some k => k.fValue | none => 0
theorem find_at {α : Type} {p : α → Bool} {xs : List α} {k : Nat} {x : α} (hx : xs[k]? = some x) : (xs.drop k).find? p = if p x = true then some x else (xs.drop (k + 1)).find? p := by
  rw [drop_at hx, List.find?_cons]
  by_cases h : p x = true
  · rw [if_pos h, h]
  · rw [if_neg h, show p x = false by simpa using h]
theorem kernFor_v (f : TFeatures) (l r : Int) : PC Tryz.prog 134 [.d f.D, .d (.int .i64 l), .d (.int .i64 r)] (.d (.int .i64 (kaN f l r))) [] := by
  refine pc_intro ttOk (by kernel_rfl) Tryz.func134 rfl (by kernel_rfl) (by kernel_rfl) (by kernel_rfl) (fun hw => ?_)
  have hL : (f.fKerns.map TKern.D).length = f.fKerns.length := List.length_map _
  have hm : (f.fKerns.map TKern.D).length ≤ 9223372036854775807 := hw.1.2.1.1
  have hN : kaN f l r = match f.fKerns.find? (kaP l r) with | some k => k.fValue | none => 0 := rfl
  generalize kaN f l r = R at hN ⊢
  (conv => whnf)
  refine LoopW.go (α := Nat) (fun k => [(1, .d (.int .i64 l)), (2, .d (.int .i64 r)), (10, .d (.lst (f.fKerns.map TKern.D))), (11, .d (.int .i64 (f.fKerns.map TKern.D).length)), (12, .d (.int .i64 k))]) (fun k => [.gone]) (fun k => k ≤ f.fKerns.length ∧ f.fKerns.find? (kaP l r) = (f.fKerns.drop k).find? (kaP l r)) (fun k => f.fKerns.length - k) 0 covT_ ?_ (fun k hk => ?_)
  · exact ⟨by omega, rfl⟩
  obtain ⟨hk1, hk2⟩ := hk
  (conv => whnf)
  (refine br_ (fun h2 => ?_) (fun h2 => ?_) <;> (repeat (refine stg_ ?_)))
  · obtain ⟨x, hx⟩ := at_lt' (xs := f.fKerns) (k := k) (by omega)
    rw [find_at hx] at hk2
    (repeat' (first | (refine stg_ ?_) | (refine cla_ (containsI_v x.fLeft l) ?_) | (refine cla_ (containsI_v x.fRight r) ?_) | (refine br_ (fun hbr => ?_) (fun hbr => ?_))))
    all_goals first | ((refine RetOK.d rfl rfl ?_; conv => whnf); rw [hN, hk2, kaP]; simp_all; done) | skip
    all_goals exact NextW.go (k + 1) covT_ ⟨by omega, by rw [hk2, kaP]; simp_all⟩ (by omega)
  · (refine RetOK.d rfl rfl ?_; conv => whnf)
    rw [hN, hk2, List.drop_eq_nil_of_le (by omega)]; rfl
theorem l27Kern_v (f : TFeatures) (l r : Int) : PC Tryz.prog 131 [.pX f.D, .d (.int .i64 l), .d (.int .i64 r)] (.d (.int .i64 (kaN f l r))) [] := by
  refine pc_intro ttOk (by kernel_rfl) Tryz.func131 rfl (by kernel_rfl) (by kernel_rfl) (by kernel_rfl) (fun hw => ?_)
  have hL : (f.fKerns.map TKern.D).length = f.fKerns.length := List.length_map _
  have hm : (f.fKerns.map TKern.D).length ≤ 9223372036854775807 := hw.1.2.1.1
  have hN : kaN f l r = match f.fKerns.find? (kaP l r) with | some k => k.fValue | none => 0 := rfl
  generalize kaN f l r = R at hN ⊢
  (conv => whnf)
  refine LoopW.go (α := Nat) (fun k => [(0, .pX f.D), (1, .d (.int .i64 l)), (2, .d (.int .i64 r)), (7, .d (.int .i64 k))]) (fun k => [.gone]) (fun k => k ≤ f.fKerns.length ∧ f.fKerns.find? (kaP l r) = (f.fKerns.drop k).find? (kaP l r)) (fun k => f.fKerns.length - k) 0 covT_ ?_ (fun k hk => ?_)
  · exact ⟨by omega, rfl⟩
  obtain ⟨hk1, hk2⟩ := hk
  (conv => whnf)
  (repeat (refine stg_ ?_))
  (refine br_ (fun h2 => ?_) (fun h2 => ?_) <;> (repeat (refine stg_ ?_)))
  · obtain ⟨x, hx⟩ := at_lt' (xs := f.fKerns) (k := k) (by omega)
    rw [find_at hx] at hk2
    (repeat' (first | (refine stg_ ?_) | (refine cla_ (l00Has_v x.fLeft l) ?_) | (refine cla_ (l00Has_v x.fRight r) ?_) | (refine br_ (fun hbr => ?_) (fun hbr => ?_))))
    all_goals first | ((refine RetOK.d rfl rfl ?_; conv => whnf); rw [hN, hk2, kaP]; simp_all; done) | skip
    all_goals exact NextW.go (k + 1) covT_ ⟨by omega, by rw [hk2, kaP]; simp_all⟩ (by omega)
  · (refine RetOK.d rfl rfl ?_; conv => whnf)
    rw [hN, hk2, List.drop_eq_nil_of_le (by omega)]; rfl
def maP (m b : Int) (k : TMarkRule) : Bool := hasI k.fMarks m && hasI k.fBases b
set_option maxHeartbeats 1000000 in
theorem ixMarkRulepp_v (xs : List TMarkRule) (f : Nat) (y0 : D) (y1 : D) (p : TMarkRule → Bool) (hf : ∀ x : TMarkRule, PC Tryz.prog f [.d x.D, .pX y0, .pX y1] (.d (.bool (p x))) []) :
    PC Tryz.prog 174 [.d (.lst (xs.map TMarkRule.D)), .fn (.func f) [.pX y0, .pX y1]] (.d (.int .i64 (fdx p xs 0))) [] := by
  refine pc_intro ttOk (by kernel_rfl) Tryz.func174 rfl (by kernel_rfl) (by kernel_rfl) (by kernel_rfl) (fun hw => ?_)
  have hL : (xs.map TMarkRule.D).length = xs.length := List.length_map _
  have hm : (xs.map TMarkRule.D).length ≤ 9223372036854775807 := hw.1.1
  (conv => whnf)
  refine LoopW.go (α := Nat) (fun k => [(0, .d (.lst (xs.map TMarkRule.D))), (1, .fn (.func f) [.pX y0, .pX y1]), (7, .d (.int .i64 (xs.map TMarkRule.D).length)), (8, .d (.int .i64 k))]) (fun k => [.gone]) (fun k => k ≤ xs.length ∧ fdx p xs 0 = fdx p (xs.drop k) k) (fun k => xs.length - k) 0 covT_ ?_ (fun k hk => ?_)
  · exact ⟨by omega, rfl⟩
  obtain ⟨hk1, hk2⟩ := hk
  (conv => whnf)
  (refine br_ (fun h2 => ?_) (fun h2 => ?_) <;> (repeat (refine stg_ ?_)))
  · obtain ⟨x, hx⟩ := at_lt' (xs := xs) (k := k) (by omega)
    rw [fdx_at hx] at hk2
    (repeat (refine stg_ ?_))
    (refine cla_ (hf x) ?_)
    (refine br_ (fun h3 => ?_) (fun h3 => ?_) <;> (repeat (refine stg_ ?_)))
    · (refine RetOK.d rfl rfl ?_; conv => whnf)
      rw [hk2, if_pos h3]
    · (repeat (refine stg_ ?_))
      exact NextW.go (k + 1) covT_ ⟨by omega, by rw [hk2, h3]; rfl⟩ (by omega)
  · (refine RetOK.d rfl rfl ?_; conv => whnf)
    rw [hk2, fdx_end (by omega)]
theorem markFor1_v (x : TMarkRule) (m b : Int) : PC Tryz.prog 175 [.d x.D, .pX (.int .i64 m), .pX (.int .i64 b)] (.d (.bool (maP m b x))) [] := by
  refine pc_intro ttOk (by kernel_rfl) Tryz.func175 rfl (by kernel_rfl) (by kernel_rfl) (by kernel_rfl) (fun hw => ?_)
  (conv => whnf)
  (repeat' (first | (refine stg_ ?_) | (refine cla_ (containsI_v x.fMarks m) ?_) | (refine cla_ (containsI_v x.fBases b) ?_) | (refine br_ (fun hbr => ?_) (fun hbr => ?_))))
  all_goals ((refine RetOK.d rfl rfl ?_; conv => whnf); simp_all [maP])
theorem markFor_v (f : TFeatures) (m b : Int) : PC Tryz.prog 126 [.d f.D, .d (.int .i64 m), .d (.int .i64 b)] (.d (.int .i64 (fdx (maP m b) f.fMarks 0))) [] := by
  refine pc_intro ttOk (by kernel_rfl) Tryz.func126 rfl (by kernel_rfl) (by kernel_rfl) (by kernel_rfl) (fun hw => ?_)
  have c1 := ixMarkRulepp_v f.fMarks _ (.int .i64 m) (.int .i64 b) (maP m b) (fun x => markFor1_v x m b)
  (conv => whnf)
  (repeat' (first | (refine stg_ ?_) | (refine cla_ (c1) ?_) | (refine br_ (fun hbr => ?_) (fun hbr => ?_))))
  (refine RetOK.d rfl rfl ?_; conv => whnf)
theorem l27Mark_v (f : TFeatures) (m b : Int) : PC Tryz.prog 122 [.pX f.D, .d (.int .i64 m), .d (.int .i64 b)] (.d (.int .i64 (fdx (maP m b) f.fMarks 0))) [] := by
  refine pc_intro ttOk (by kernel_rfl) Tryz.func122 rfl (by kernel_rfl) (by kernel_rfl) (by kernel_rfl) (fun hw => ?_)
  have hL : (f.fMarks.map TMarkRule.D).length = f.fMarks.length := List.length_map _
  have hm : (f.fMarks.map TMarkRule.D).length ≤ 9223372036854775807 := hw.1.2.2.1.1
  (conv => whnf)
  refine LoopW.go (α := Nat) (fun k => [(0, .pX f.D), (1, .d (.int .i64 m)), (2, .d (.int .i64 b)), (7, .d (.int .i64 k))]) (fun k => [.gone]) (fun k => k ≤ f.fMarks.length ∧ fdx (maP m b) f.fMarks 0 = fdx (maP m b) (f.fMarks.drop k) k) (fun k => f.fMarks.length - k) 0 covT_ ?_ (fun k hk => ?_)
  · exact ⟨by omega, rfl⟩
  obtain ⟨hk1, hk2⟩ := hk
  (conv => whnf)
  (repeat (refine stg_ ?_))
  (refine br_ (fun h2 => ?_) (fun h2 => ?_) <;> (repeat (refine stg_ ?_)))
  · obtain ⟨x, hx⟩ := at_lt' (xs := f.fMarks) (k := k) (by omega)
    rw [fdx_at hx] at hk2
    (repeat' (first | (refine stg_ ?_) | (refine cla_ (l00Has_v x.fMarks m) ?_) | (refine cla_ (l00Has_v x.fBases b) ?_) | (refine br_ (fun hbr => ?_) (fun hbr => ?_))))
    all_goals first | ((refine RetOK.d rfl rfl ?_; conv => whnf); rw [hk2, maP]; simp_all; done) | skip
    all_goals exact NextW.go (k + 1) covT_ ⟨by omega, by rw [hk2, maP]; simp_all⟩ (by omega)
  · (refine RetOK.d rfl rfl ?_; conv => whnf)
    rw [hk2, fdx_end (by omega)]
def markN : ByteArray := ⟨#[109, 97, 114, 107, 46]⟩
def moR (gs : List TGlyph) (k : TMarkRule) (m b : Int) : Option TPt :=
  match anV gs k.fAnchor b, anV gs (markN ++ k.fAnchor) m with
  | some t, some u => if pntB t = true ∧ pntB u = true then some ⟨t.fX - u.fX, t.fY - u.fY⟩ else none
  | _, _ => none
def moV (gs : List TGlyph) (f : TFeatures) (m b : Int) : Option TPt := match f.fMarks.find? (maP m b) with
  | none => none
  | some k => moR gs k m b
theorem moV_in {gs : List TGlyph} {f : TFeatures} {m b : Int} {d : TPt} (h : moV gs f m b = some d) : ptIn 524288 d := by
  unfold moV at h
  cases hf : f.fMarks.find? (maP m b) with
  | none => rw [hf] at h; cases h
  | some k =>
    rw [hf] at h
    dsimp only at h
    unfold moR at h
    split at h
    · split at h
      · rename_i t u _ _ hp
        cases h
        have h1 := pnt_in hp.1
        have h2 := pnt_in hp.2
        unfold ptIn
        dsimp only
        omega
      · cases h
    · cases h
def plG (gs : List TGlyph) (f : TFeatures) : List TItem → Option TSlot → Int → List TSlot
  | [], _, _ => []
  | x :: t, none, pen =>
    ⟨x.fGlyph, pen, 0, adv gs x.fGlyph, x.fFrom, x.fLen⟩ :: plG gs f t (some ⟨x.fGlyph, pen, 0, adv gs x.fGlyph, x.fFrom, x.fLen⟩) (pen + adv gs x.fGlyph)
  | x :: t, some b, pen => match moV gs f x.fGlyph b.fGlyph with
    | some d => ⟨x.fGlyph, b.fX + d.fX, b.fY + d.fY, 0, x.fFrom, x.fLen⟩ :: plG gs f t (some b) pen
    | none => ⟨x.fGlyph, pen + kaN f b.fGlyph x.fGlyph, 0, adv gs x.fGlyph, x.fFrom, x.fLen⟩ ::
        plG gs f t (some ⟨x.fGlyph, pen + kaN f b.fGlyph x.fGlyph, 0, adv gs x.fGlyph, x.fFrom, x.fLen⟩) (pen + kaN f b.fGlyph x.fGlyph + adv gs x.fGlyph)
where
  adv (gs : List TGlyph) (i : Int) : Int := match gs[i.toNat]? with | some g => g.fAdvance | none => 0
def plL (gs : List TGlyph) (f : TFeatures) (xs : List TItem) : List TSlot := plG gs f xs none 0
theorem plG_len (gs : List TGlyph) (f : TFeatures) : ∀ (xs : List TItem) (o : Option TSlot) (pen : Int), (plG gs f xs o pen).length = xs.length
  | [], _, _ => by simp [plG]
  | x :: t, none, pen => by simp [plG, plG_len gs f t]
  | x :: t, some b, pen => by
    rw [plG]
    split
    · simp [plG_len gs f t]
    · simp [plG_len gs f t]
theorem plL_len (gs : List TGlyph) (f : TFeatures) (xs : List TItem) : (plL gs f xs).length = xs.length := plG_len _ _ _ _ _
theorem kaN_in {f : TFeatures} (h : ftB f = true) (l r : Int) : -262144 ≤ kaN f l r ∧ kaN f l r ≤ 262144 := by
  unfold kaN
  cases hf : f.fKerns.find? (kaP l r) with
  | none => dsimp only; omega
  | some k =>
    have h1 := (ftB_F h).kn k (List.mem_of_find?_eq_some hf)
    simp only [knB, inB, Bool.and_eq_true, decide_eq_true_eq] at h1
    dsimp only
    omega
theorem adv_in {gs : List TGlyph} (h : ∀ g ∈ gs, glB g = true) (i : Int) : 0 ≤ plG.adv gs i ∧ plG.adv gs i ≤ 262144 := by
  unfold plG.adv
  cases hf : gs[i.toNat]? with
  | none => dsimp only; omega
  | some g =>
    have h1 := h g (List.mem_of_getElem? hf)
    simp only [glB, inB, Bool.and_eq_true, decide_eq_true_eq] at h1
    dsimp only
    omega
structure GsK (s : TGlyphSet) : Prop where
  gl : ∀ g ∈ s.fGlyphs, glB g = true
  len : s.fGlyphs.length ≤ 40
  ins : gsIn s.fGlyphs
  ord : GsO s.fGlyphs (oAll (psG s.fGlyphs))
theorem ptIn_of {p : TPt} (h : pntB p = true) : ptIn 262144 p := by
  have := pnt_in h
  unfold ptIn
  omega
theorem anG_all : ∀ {xs seen : List TAnchor}, anG seen xs = true → ∀ a ∈ xs, pntB a.fAt = true
  | [], _, _, a, ha => by simp at ha
  | x :: t, seen, h, a, ha => by
    simp only [anG, Bool.and_eq_true] at h
    rcases List.mem_cons.1 ha with rfl | ha
    · exact h.2.1
    · exact anG_all h.2.2.2 a ha
theorem gsK {s : TGlyphSet} (h : gsB s = true) : GsK s := by
  have h1 : gsB s = (inB s.fUnit 16 16384 && (decide (s.fGlyphs.length ≤ 40) && (gsG [] s.fGlyphs && gordB (psG s.fGlyphs)))) := rfl
  rw [h1] at h
  simp only [Bool.and_eq_true, decide_eq_true_eq] at h
  have hg := gsG_all h.2.2.1
  have hP : ∀ q ∈ psG s.fGlyphs, ∀ p ∈ q, 0 ≤ p := fun q hq p hp => by
    obtain ⟨g, hgm, rfl⟩ := List.mem_map.1 hq
    obtain ⟨y, hy, rfl⟩ := List.mem_map.1 hp
    have h2 := hg g hgm
    simp only [glB, Bool.and_eq_true, List.all_eq_true] at h2
    have h3 := h2.2.2.2.2.2.2.2.2.1 y hy
    simp only [ptB, inB, Bool.and_eq_true, decide_eq_true_eq] at h3
    exact h3.1.1
  refine ⟨hg, h.2.1, fun g hgm => ?_, Topo.all _, fun i hi => oAll_mem hP h.2.2.2 (by rw [psG_len]; exact hi), by have := oAll_le hP; rwa [psG_len] at this⟩
  have h2 := hg g hgm
  simp only [glB, Bool.and_eq_true, List.all_eq_true] at h2
  refine ⟨fun a ha => ptIn_of (anG_all h2.2.2.2.2.2.2.2.2.2 a ha), fun p hp => ?_⟩
  have h3 := h2.2.2.2.2.2.2.2.2.1 p hp
  simp only [ptB, Bool.and_eq_true] at h3
  exact ptIn_of h3.2
theorem Weak.box {e : Env} {h : List Blk} (b : Nat) {v v' : V} (hb : h[b]? = some (.box v)) (hb0 : Nat.ble 1 b = true) (hv : ∀ (w : World) (M : MM) (h : List Blk) (cs : List Value), repC w M h v cs → repC w M h v' cs) : Weak e h e (h.set b (.box v')) := fun B X N M a w R => by
  have hlt : b < h.length := (List.getElem?_eq_some_iff.1 hb).1
  have hnof : ∀ c, nOf (h.set b (.box v')) c = nOf h c := fun c => by
    unfold nOf
    by_cases hc : b = c
    · subst hc
      rw [List.getElem?_set_self hlt, hb]
    · rw [List.getElem?_set_ne hc]
  have mv' : Mv (fun _ => True) w M h w M (h.set b (.box v')) := {
    ext := fun b hb _ => ⟨hb, rfl⟩
    ids := fun b g F _ hb => ⟨F, hb⟩
    row := fun b g F arr t _ _ hg => ⟨arr, hg, rfl⟩
    nof := fun b g F _ _ => hnof b
    sz := Nat.le_refl _ }
  have hget : ∀ (c : Nat) (k : Blk), (h.set b (.box v'))[c]? = some k → (c = b ∧ k = .box v') ∨ h[c]? = some k := fun c k hk => by
    by_cases hc : b = c
    · subst hc
      rw [List.getElem?_set_self hlt] at hk
      cases hk
      exact .inl ⟨rfl, rfl⟩
    · rw [List.getElem?_set_ne hc] at hk
      exact .inr hk
  have hI' : MInv B.heap.size w M (h.set b (.box v')) := {
    len := by simp [R.inv.len]
    blk := fun c k m hk hm => by
      rcases hget c k hk with ⟨rfl, rfl⟩ | hk3
      · have h1 := R.inv.blk c _ m hb hm
        cases m with
        | none => exact h1
        | some gF =>
          obtain ⟨g, F⟩ := gF
          obtain ⟨h2, arr, t, h3, h4⟩ := h1
          exact ⟨h2, arr, t, h3, repC_mv mv' _ _ (V.inS_all _) (hv _ _ _ _ h4)⟩
      · exact BRep_mv mv' (by cases k <;> first | trivial | exact V.inS_all _ | exact inSE_all _) (fun _ _ => rfl) (R.inv.blk c k m hk3 hm)
    nd := R.inv.nd
    lo := fun c k m hk hm hl => by
      rcases hget c k hk with ⟨rfl, rfl⟩ | hk3
      · exact R.inv.lo c _ m hb hm rfl
      · exact R.inv.lo c k m hk3 hm hl
    hi := R.inv.hi }
  refine ⟨M, R.ext, hI', fun k => rep_mv mv' _ _ (V.inS_all _) (R.env k), R.sz, R.df, R.fr, ?_⟩
  rw [List.getElem?_set_ne (by intro e0; subst e0; cases hb0)]
  exact R.fh
theorem Weak.boxz {e : Env} {h : List Blk} (b : Nat) {v : V} {z : D} (hb : h[b]? = some (.box v)) (hb0 : Nat.ble 1 b = true) (hz : zD v = some z) : Weak e h e (h.set b (.box (.d z))) :=
  Weak.box b hb hb0 fun w M h cs H => by
    show repD M.O w z cs
    exact ownD_rep z [] cs (by simp) (zD_own v z cs hz H).1
theorem gl_small {g : TGlyph} (h : glB g = true) : g.fParts.length ≤ 6 ∧ g.fAnchors.length ≤ 6 ∧ ∀ p ∈ g.fParts, 0 ≤ p.fGlyph ∧ p.fGlyph ≤ 39 := by
  simp only [glB, Bool.and_eq_true, decide_eq_true_eq, List.all_eq_true] at h
  refine ⟨h.2.2.2.2.2.1, h.2.2.2.2.2.2.1, fun p hp => ?_⟩
  have h3 := h.2.2.2.2.2.2.2.2.1 p hp
  simp only [ptB, inB, Bool.and_eq_true, decide_eq_true_eq] at h3
  exact h3.1
def ordG (s : TGlyphSet) : List Int := oAll (psG s.fGlyphs)
theorem GsK.at {s : TGlyphSet} (K : GsK s) {k : Nat} {i : Int} (hk : (ordG s)[k]? = some i) : ∃ g, 0 ≤ i ∧ s.fGlyphs[i.toNat]? = some g := by
  have h := K.ord.topo.rng i (List.mem_of_getElem? hk)
  rw [psG_len] at h
  obtain ⟨g, hg⟩ := at_lt' (xs := s.fGlyphs) (k := i.toNat) h.2
  exact ⟨g, h.1, hg⟩
theorem GsK.pos {s : TGlyphSet} (K : GsK s) {i : Int} (h0 : 0 ≤ i) (h1 : i.toNat < s.fGlyphs.length) : ∃ k : Nat, (ordG s)[k]? = some i := by
  have := K.ord.mem i.toNat h1
  rw [Int.toNat_of_nonneg h0] at this
  exact List.getElem?_of_mem this
theorem l17Anchor_v (g : TGlyph) (nm : ByteArray) : PC Tryz.prog 170 [.pX g.D, .d (.str nm)] (.d (.int .i64 (fdx (anEq nm) g.fAnchors 0))) [] := by
  refine pc_intro ttOk (by kernel_rfl) Tryz.func170 rfl (by kernel_rfl) (by kernel_rfl) (by kernel_rfl) (fun hw => ?_)
  have hL : (g.fAnchors.map TAnchor.D).length = g.fAnchors.length := List.length_map _
  have hm : (g.fAnchors.map TAnchor.D).length ≤ 9223372036854775807 := hw.1.2.2.2.2.2.1.1
  (conv => whnf)
  refine LoopW.go (α := Nat) (fun k => [(0, .pX g.D), (1, .d (.str nm)), (5, .d (.int .i64 k))]) (fun k => [.gone]) (fun k => k ≤ g.fAnchors.length ∧ fdx (anEq nm) g.fAnchors 0 = fdx (anEq nm) (g.fAnchors.drop k) k) (fun k => g.fAnchors.length - k) 0 covT_ ?_ (fun k hk => ?_)
  · exact ⟨by omega, rfl⟩
  obtain ⟨hk1, hk2⟩ := hk
  (conv => whnf)
  (repeat (refine stg_ ?_))
  (refine br_ (fun h2 => ?_) (fun h2 => ?_) <;> (repeat (refine stg_ ?_)))
  · obtain ⟨x, hx⟩ := at_lt' (xs := g.fAnchors) (k := k) (by omega)
    rw [fdx_at hx] at hk2
    (repeat' (first | (refine stg_ ?_) | fail | (refine br_ (fun hbr => ?_) (fun hbr => ?_))))
    all_goals first | (exfalso; omega) | ((refine RetOK.d rfl rfl ?_; conv => whnf); rw [hk2, if_pos (by simp_all [anEq])]; done) | (exact NextW.go (k + 1) covT_ ⟨by omega, by rw [hk2, if_neg (by simp_all [anEq])]⟩ (by omega))
  · (refine RetOK.d rfl rfl ?_; conv => whnf)
    rw [hk2, fdx_end (by omega)]
def hvP (s : TGlyphSet) (nm : ByteArray) (i : Int) : Bool := (anV s.fGlyphs nm i).isSome
def hvL (s : TGlyphSet) (nm : ByteArray) : List Int := (ordG s).filter (hvP s nm)
theorem hvP_eq {s : TGlyphSet} (K : GsK s) {nm : ByteArray} {k : Nat} {i : Int} (hk : (ordG s)[k]? = some i) {g : TGlyph} (hg : s.fGlyphs[i.toNat]? = some g) : hvP s nm i = (decide (0 ≤ fdx (anEq nm) g.fAnchors 0) || g.fParts.any fun p => hvP s nm p.fGlyph) := by
  rw [hvP, anV_eq K.ord hk hg]
  have h1 := fdx_any (anEq nm) g.fAnchors 0
  rw [h1]
  unfold anO
  cases hf : g.fAnchors.find? (anEq nm) with
  | none =>
    have : g.fAnchors.any (anEq nm) = false := by
      rw [List.any_eq_false]
      exact fun x hx => List.find?_eq_none.1 hf x hx
    rw [this, Bool.false_or]
    exact anP_some
  | some a =>
    have : g.fAnchors.any (anEq nm) = true := List.any_eq_true.2 ⟨a, List.mem_of_find?_eq_some hf, List.find?_some hf⟩
    rw [this, Bool.true_or]; rfl
theorem hv_part {s : TGlyphSet} (K : GsK s) {nm : ByteArray} {k : Nat} {i : Int} (hk : (ordG s)[k]? = some i) {g : TGlyph} (hg : s.fGlyphs[i.toNat]? = some g) {p : TPart} (hp : p ∈ g.fParts) : decide (p.fGlyph ∈ ((ordG s).take k).filter (hvP s nm)) = hvP s nm p.fGlyph := by
  obtain ⟨j, hj, hj2⟩ := K.ord.part hk hg hp
  have hm : p.fGlyph ∈ (ordG s).take k := List.mem_of_getElem? (i := j) (by rw [List.getElem?_take, if_pos hj]; exact hj2)
  rw [Bool.eq_iff_iff, decide_eq_true_iff, List.mem_filter]
  exact ⟨fun h => h.2, fun h => ⟨hm, h⟩⟩
theorem hv_mem {s : TGlyphSet} (K : GsK s) {nm : ByteArray} {i : Int} (h0 : 0 ≤ i) (h1 : i.toNat < s.fGlyphs.length) : decide (i ∈ hvL s nm) = hvP s nm i := by
  obtain ⟨k, hk⟩ := K.pos h0 h1
  rw [Bool.eq_iff_iff, decide_eq_true_iff, hvL, List.mem_filter]
  exact ⟨fun h => h.2, fun h => ⟨List.mem_of_getElem? hk, h⟩⟩
theorem filt_snoc {p : Int → Bool} {xs : List Int} {k : Nat} {x : Int} (h : xs[k]? = some x) : (xs.take (k + 1)).filter p = (xs.take k).filter p ++ (if p x = true then [x] else []) := by
  rw [take_snoc_get h, List.filter_append]
  congr 1
  by_cases hp : p x = true
  · rw [if_pos hp, List.filter_cons_of_pos hp]; rfl
  · rw [if_neg hp, List.filter_cons_of_neg hp]; rfl
set_option maxHeartbeats 4000000 in
theorem l17Having_o (s : TGlyphSet) (K : GsK s) (nm : ByteArray) : PC Tryz.prog 169 [.pX s.D, .d (.str nm)] (.own 1 0 (hvL s nm).length) [.arr 1 ((hvL s nm).map (D.int .i64)) true] := by
  refine pc_intro ttOk (by kernel_rfl) Tryz.func169 rfl (by kernel_rfl) (by kernel_rfl) (by kernel_rfl) (fun hw => ?_)
  have hL : (s.fGlyphs.map TGlyph.D).length = s.fGlyphs.length := List.length_map _
  have hO : ((ordG s).map (D.int .i64)).length = (ordG s).length := List.length_map _
  have h40 := K.len
  have hol := K.ord.len
  have c9 : PC Tryz.prog 121 [.pX s.D] (.d (.lst ((ordG s).map (D.int .i64)))) [] := (l17Order_v s K.len (fun g hg => ⟨(gl_small (K.gl g hg)).1, fun p hp => ((gl_small (K.gl g hg)).2.2 p hp).1⟩)).freeze hO.symm
  have hol' : (ordG s).length ≤ s.fGlyphs.length := hol
  have hoi : ∀ (k : Nat), ((ordG s).take k).filter (hvP s nm) = ((ordG s).take k).filter (hvP s nm) := fun _ => rfl
  (conv => whnf)
  (repeat' (first | (refine stg_ ?_) | (refine cla_ (c9) ?_) | (refine br_ (fun hbr => ?_) (fun hbr => ?_))))
  refine LoopW.go (α := Nat) (fun k => [(0, .pX s.D), (1, .d (.str nm)), (5, .d (.lst ((ordG s).map (D.int .i64)))), (6, .own 1 0 (((ordG s).take k).filter (hvP s nm)).length), (7, .d (.int .i64 k))]) (fun k => [.gone, .arr 1 ((((ordG s).take k).filter (hvP s nm)).map (D.int .i64)) true]) (fun k => k ≤ (ordG s).length) (fun k => (ordG s).length - k) 0 covT_ (by omega) (fun k hk => ?_)
  have hfl : (((ordG s).take k).filter (hvP s nm)).length ≤ k := by
    have h1 := List.length_filter_le (hvP s nm) ((ordG s).take k)
    have h2 : ((ordG s).take k).length ≤ k := by rw [List.length_take]; omega
    omega
  have hfm : ((((ordG s).take k).filter (hvP s nm)).map (D.int .i64)).length = (((ordG s).take k).filter (hvP s nm)).length := List.length_map _
  (conv => whnf)
  (refine br_ (fun h2 => ?_) (fun h2 => ?_) <;> (repeat (refine stg_ ?_)))
  · obtain ⟨i, hi⟩ := at_lt' (xs := ordG s) (k := k) (by omega)
    obtain ⟨g, hi0, hg⟩ := K.at hi
    have hg' : (s.fGlyphs.map TGlyph.D)[i.toNat]? = some g.D := by rw [List.getElem?_map, hg]; rfl
    have hgB := gl_small (K.gl g (List.mem_of_getElem? hg))
    have hP := hvP_eq K (nm := nm) hi hg
    have hpt := fun p hp => hv_part K (nm := nm) hi hg (p := p) hp
    have hS := filt_snoc (p := hvP s nm) hi
    have c1 := l17Anchor_v g nm
    have c2 := fun n => gsHas_v (((ordG s).take k).filter (hvP s nm)) n
    have hPl : (g.fParts.map TPart.D).length = g.fParts.length := List.length_map _
    generalize ((ordG s).take k).filter (hvP s nm) = out at *
    generalize hF : fdx (anEq nm) g.fAnchors 0 = F at *
    (repeat' (first | (refine stg_ ?_) | (refine cla_ (c1) ?_) | (refine IxW.at hi0 hg' ?_; (conv => whnf)) | (refine br_ (fun hbr => ?_) (fun hbr => ?_))))
    refine LoopW.go (α := Nat) (fun j => [(0, .pX s.D), (1, .d (.str nm)), (5, .d (.lst ((ordG s).map (D.int .i64)))), (6, .own 1 0 out.length), (7, .d (.int .i64 k)), (8, .pX g.D), (9, .d (.bool (decide (0 ≤ F) || (g.fParts.take j).any fun p => hvP s nm p.fGlyph))), (10, .d (.int .i64 j))]) (fun j => [.gone, .arr 1 (out.map (D.int .i64)) true]) (fun j => j ≤ g.fParts.length) (fun j => g.fParts.length - j) 0 (Weak.cov ⟨rfl, rfl, rfl, rfl, rfl, rfl, by (rw [List.take_zero, List.any_nil, Bool.or_false]; rfl), rfl, trivial⟩ ⟨trivial, rfl, trivial⟩ rfl) (by omega) (fun j hj => ?_)
    have hOm : (out.map (D.int .i64)).length = out.length := List.length_map _
    generalize hHB : (decide (0 ≤ F) || (g.fParts.take j).any fun p => hvP s nm p.fGlyph) = HB
    (conv => whnf)
    (repeat (refine stg_ ?_))
    (refine br_ (fun h3 => ?_) (fun h3 => ?_) <;> (repeat (refine stg_ ?_)))
    · obtain ⟨y, hy⟩ := at_lt' (xs := g.fParts) (k := j) (by omega)
      have hT : (decide (0 ≤ F) || (g.fParts.take (j + 1)).any fun p => hvP s nm p.fGlyph) = (HB || hvP s nm y.fGlyph) := by
        rw [take_snoc_get hy, List.any_append, List.any_cons, List.any_nil, Bool.or_false, ← Bool.or_assoc, hHB]
      have c3 := c2 y.fGlyph
      rw [hpt y (List.mem_of_getElem? hy)] at c3
      generalize hvP s nm y.fGlyph = Y at *
      cases HB
      · (conv => whnf)
        (repeat' (first | (refine stg_ ?_) | (refine cla_ (c3) ?_) | (refine br_ (fun hbr => ?_) (fun hbr => ?_))))
        all_goals refine NextW.go (j + 1) (Weak.cov ⟨rfl, rfl, rfl, rfl, rfl, rfl, by (rw [hT]; rfl), rfl, trivial⟩ ⟨trivial, rfl, trivial⟩ rfl) (by omega) (by omega)
      · (conv => whnf)
        (repeat' (first | (refine stg_ ?_) | (refine cla_ (c3) ?_) | (refine br_ (fun hbr => ?_) (fun hbr => ?_))))
        all_goals refine NextW.go (j + 1) (Weak.cov ⟨rfl, rfl, rfl, rfl, rfl, rfl, by (rw [hT]; rfl), rfl, trivial⟩ ⟨trivial, rfl, trivial⟩ rfl) (by omega) (by omega)
    · rw [List.take_of_length_le (by omega), ← hP] at hHB
      rw [hHB] at hS
      cases HB
      · rw [if_neg (by simp), List.append_nil] at hS
        (conv => whnf)
        (repeat' (first | (refine stg_ ?_) | fail | (refine br_ (fun hbr => ?_) (fun hbr => ?_))))
        refine NextW.go (k + 1) (Weak.cov ⟨rfl, rfl, rfl, by (rw [hS]; first | done | rfl), rfl, trivial⟩ ⟨trivial, by (rw [hS]; first | done | rfl), trivial⟩ rfl) (by omega) (by omega)
      · rw [if_pos rfl] at hS
        (conv => whnf)
        (repeat' (first | (refine stg_ ?_) | fail | (refine br_ (fun hbr => ?_) (fun hbr => ?_))))
        refine NextW.go (k + 1) (Weak.cov ⟨rfl, rfl, rfl, by (rw [hS, List.length_append]; first | done | rfl), rfl, trivial⟩ ⟨trivial, by (rw [hS, List.take_of_length_le (by omega), List.map_append]; first | done | rfl), trivial⟩ rfl) (by omega) (by omega)
  · obtain rfl : k = (ordG s).length := by omega
    (repeat' (first | (refine stg_ ?_) | fail | (refine br_ (fun hbr => ?_) (fun hbr => ?_))))
    rw [List.take_length]
    (refine ⟨⟨[some 1], ⟨by decide, rfl, trivial, trivial⟩, by decide, rfl, ?_⟩⟩; (conv => whnf); exact ⟨by decide, rfl⟩)
theorem l17Having_v (s : TGlyphSet) (K : GsK s) (nm : ByteArray) : PC Tryz.prog 169 [.pX s.D, .d (.str nm)] (.d (.lst ((hvL s nm).map (D.int .i64)))) [] := (l17Having_o s K nm).freeze (List.length_map _).symm
def aaV (s : TGlyphSet) (nm : ByteArray) (i : Int) : TPt × Int := match anV s.fGlyphs nm i with
  | none => (⟨0, 0⟩, 3)
  | some r => if pntB r = true then (r, 0) else (⟨0, 0⟩, 2)
set_option maxHeartbeats 4000000 in
theorem l17AnchorAt_v (s : TGlyphSet) (K : GsK s) (i0 : Int) (nm : ByteArray) (h0 : 0 ≤ i0) (h1 : i0.toNat < s.fGlyphs.length) : PC Tryz.prog 123 [.pX s.D, .d (.int .i64 i0), .d (.str nm)] (.tup [.d (aaV s nm i0).1.D, .d (.int .i64 (aaV s nm i0).2)]) [] := by
  refine pc_intro ttOk (by kernel_rfl) Tryz.func123 rfl (by kernel_rfl) (by kernel_rfl) (by kernel_rfl) (fun hw => ?_)
  have hL : (s.fGlyphs.map TGlyph.D).length = s.fGlyphs.length := List.length_map _
  have h40 := K.len
  have c1 := l17Having_v s K nm
  have c2 := gsHas_v (hvL s nm) i0
  rw [hv_mem K h0 h1] at c2
  have hA : aaV s nm i0 = match anV s.fGlyphs nm i0 with | none => (⟨0, 0⟩, 3) | some r => if pntB r = true then (r, 0) else (⟨0, 0⟩, 2) := rfl
  cases hV : anV s.fGlyphs nm i0 with
  | none =>
    rw [hV] at hA
    dsimp only at hA
    rw [hA]
    rw [hvP, hV] at c2
    (conv => whnf)
    (repeat' (first | (refine stg_ ?_) | (refine cla_ (c1) ?_) | (refine cla_ (c2) ?_) | (refine br_ (fun hbr => ?_) (fun hbr => ?_))))
    all_goals first | (exfalso; simp_all; done) | ((refine RetOK.t rfl ?_; (repeat' ((conv => whnf); (first | done | (refine ⟨_, _, rfl, ⟨rfl, ?_⟩, ?_⟩) | fail))); (all_goals (conv => whnf))); (all_goals first | rfl | exact ⟨_, rfl, _, _, rfl, rfl, _, _, rfl, rfl, rfl⟩))
  | some r =>
    rw [hV] at hA
    dsimp only at hA
    rw [hvP, hV] at c2
    obtain ⟨k0, hk0⟩ := K.pos h0 h1
    generalize aaV s nm i0 = AA at *
    (conv => whnf)
    (repeat' (first | (refine stg_ ?_) | (refine cla_ (c1) ?_) | (refine cla_ (c2) ?_) | (refine br_ (fun hbr => ?_) (fun hbr => ?_))))
    all_goals first | (exfalso; simp_all; done) | skip
    refine LoopW.go (α := Nat × Int × TPt) (fun p => [(0, .pX s.D), (1, .d (.int .i64 p.2.1)), (2, .d (.str nm)), (6, .pB 1 [] 0), (8, .d (.lst ((hvL s nm).map (D.int .i64)))), (9, .pB 2 [] 0)]) (fun p => [.gone, .box (.st [.d (.int .i64 0), .d (.int .i64 0)]), .box (.st [.d (.int .i64 p.2.2.fX), .d (.int .i64 p.2.2.fY)])]) (fun p => (ordG s)[p.1]? = some p.2.1 ∧ ∃ q, anV s.fGlyphs nm p.2.1 = some q ∧ p.2.2.fX + q.fX = r.fX ∧ p.2.2.fY + q.fY = r.fY) (fun p => p.1) (k0, i0, ⟨0, 0⟩) covT_ ⟨hk0, r, hV, by dsimp only; omega, by dsimp only; omega⟩ ?_
    clear c2 h0 h1 hk0
    rintro ⟨k, i, acc⟩ ⟨hk, q, hq, hx1, hx2⟩
    dsimp only at hk hq hx1 hx2 ⊢
    have hr1 := anV_in K.ins K.len hV
    have hq1 := anV_in K.ins K.len hq
    unfold ptIn at hr1 hq1
    obtain ⟨g, hi0, hg⟩ := K.at hk
    have hg' : (s.fGlyphs.map TGlyph.D)[i.toNat]? = some g.D := by rw [List.getElem?_map, hg]; rfl
    have hgB := gl_small (K.gl g (List.mem_of_getElem? hg))
    have hE := anV_eq K.ord (nm := nm) hk hg
    have c3 := l17Anchor_v g nm
    rcases fdx_find (anEq nm) g.fAnchors 0 with ⟨f1, f2⟩ | ⟨j, a, f1, f2, f3⟩
    · rw [anO, f2] at hE
      simp only [Option.map_none] at hE
      rw [f1] at c3
      rw [hq] at hE
      have hPl : (g.fParts.map TPart.D).length = g.fParts.length := List.length_map _
      (conv => whnf)
      (repeat' (first | (refine stg_ ?_) | (refine cla_ (c3) ?_) | (refine IxW.at hi0 hg' ?_; (conv => whnf)) | (refine br_ (fun hbr => ?_) (fun hbr => ?_))))
      all_goals first | (exfalso; omega) | skip
      refine LoopW.go (α := Nat) (fun j => [(0, .pX s.D), (1, .d (.int .i64 i)), (2, .d (.str nm)), (6, .pB 1 [] 0), (8, .d (.lst ((hvL s nm).map (D.int .i64)))), (9, .pB 2 [] 0), (10, .pX g.D), (12, .d (.int .i64 j))]) (fun _ => [.gone, .box (.st [.d (.int .i64 0), .d (.int .i64 0)]), .box (.st [.d (.int .i64 acc.fX), .d (.int .i64 acc.fY)])]) (fun j => j ≤ g.fParts.length ∧ some q = anP (anV s.fGlyphs nm) (g.fParts.drop j)) (fun j => g.fParts.length - j) 0 covT_ ⟨by omega, hE⟩ (fun j hj => ?_)
      obtain ⟨hj1, hj2⟩ := hj
      rcases Nat.lt_or_ge j g.fParts.length with hlt | hge
      · obtain ⟨y, hy⟩ := at_lt' (xs := g.fParts) (k := j) hlt
        rw [anP_cons hy] at hj2
        obtain ⟨k2, hk2, hk3⟩ := K.ord.part hk hg (List.mem_of_getElem? hy)
        obtain ⟨g2, hy0, hg2⟩ := K.at hk3
        have hyr := (List.getElem?_eq_some_iff.1 hg2).1
        have c4 := gsHas_v (hvL s nm) y.fGlyph
        rw [hv_mem K hy0 hyr, hvP] at c4
        have hmv := (K.ins g (List.mem_of_getElem? hg)).2 y (List.mem_of_getElem? hy)
        unfold ptIn at hmv
        cases hQ : anV s.fGlyphs nm y.fGlyph with
        | none =>
          rw [hQ] at hj2 c4
          (conv => whnf)
          (repeat' (first | (refine stg_ ?_) | (refine cla_ (c4) ?_) | (refine br_ (fun hbr => ?_) (fun hbr => ?_))))
          all_goals first | (exfalso; simp_all; done) | (exact NextW.go (j + 1) covT_ ⟨by omega, hj2⟩ (by omega))
        | some q2 =>
          rw [hQ] at hj2 c4
          have hq2 := anV_in K.ins K.len hQ
          unfold ptIn at hq2
          have e1 : q.fX = q2.fX + y.fMove.fX := by have := congrArg (fun z => (z.getD ⟨0, 0⟩).fX) hj2; exact this
          have e2 : q.fY = q2.fY + y.fMove.fY := by have := congrArg (fun z => (z.getD ⟨0, 0⟩).fY) hj2; exact this
          (conv => whnf)
          (repeat' (first | (refine stg_ ?_) | (refine cla_ (c4) ?_) | (refine br_ (fun hbr => ?_) (fun hbr => ?_))))
          all_goals first | (exfalso; simp_all; done) | skip
          refine NextW.go (k2, y.fGlyph, ⟨acc.fX + y.fMove.fX, acc.fY + y.fMove.fY⟩) covT_ ⟨hk3, q2, hQ, by dsimp only; omega, by dsimp only; omega⟩ hk2
      · rw [anP_end hge] at hj2
        cases hj2
    · rw [anO, f3] at hE
      simp only [Option.map_some] at hE
      rw [hq] at hE
      rw [f1, Nat.zero_add] at c3
      have hqa : q = a.fAt := by injection hE
      subst hqa
      have hr : (⟨acc.fX + a.fAt.fX, acc.fY + a.fAt.fY⟩ : TPt) = r := by
        cases r
        dsimp only at hx1 hx2
        rw [hx1, hx2]
      have ha' : (g.fAnchors.map TAnchor.D)[j]? = some a.D := by rw [List.getElem?_map, f2]; rfl
      have c4 := l03Ok_v ⟨acc.fX + a.fAt.fX, acc.fY + a.fAt.fY⟩
      rw [← hr] at hA
      generalize hPB : pntB ⟨acc.fX + a.fAt.fX, acc.fY + a.fAt.fY⟩ = PB at *
      cases PB
      · rw [if_neg (by simp)] at hA
        rw [hA]
        (conv => whnf)
        (repeat' (first | (refine stg_ ?_) | (refine cla_ (c3) ?_) | (refine cla_ (c4) ?_) | (refine IxW.at hi0 hg' ?_; (conv => whnf)) | (refine IxW.at (by omega) ha' ?_; (conv => whnf)) | (refine br_ (fun hbr => ?_) (fun hbr => ?_))))
        all_goals first | (exfalso; omega) | (exfalso; simp_all; done) | ((refine RetOK.t rfl ?_; (repeat' ((conv => whnf); (first | done | (refine ⟨_, _, rfl, ⟨rfl, ?_⟩, ?_⟩) | fail))); (all_goals (conv => whnf))); (all_goals first | rfl | exact ⟨_, rfl, _, _, rfl, rfl, _, _, rfl, rfl, rfl⟩))
      · rw [if_pos rfl] at hA
        rw [hA]
        (conv => whnf)
        (repeat' (first | (refine stg_ ?_) | (refine cla_ (c3) ?_) | (refine cla_ (c4) ?_) | (refine IxW.at hi0 hg' ?_; (conv => whnf)) | (refine IxW.at (by omega) ha' ?_; (conv => whnf)) | (refine br_ (fun hbr => ?_) (fun hbr => ?_))))
        all_goals first | (exfalso; omega) | (exfalso; simp_all; done) | ((refine RetOK.t rfl ?_; (repeat' ((conv => whnf); (first | done | (refine ⟨_, _, rfl, ⟨rfl, ?_⟩, ?_⟩) | fail))); (all_goals (conv => whnf))); (all_goals first | rfl | exact ⟨_, rfl, _, _, rfl, rfl, _, _, rfl, rfl, rfl⟩))
def trRt : OT := .q 0 (.q 1 (.q 2 (.alt 3 (.alt 4 (.q 5 .done) .nil) (.alt 4 (.q 3 (.q 5 .done)) .nil))))
set_option maxHeartbeats 4000000 in
theorem anchorOf_pm (s : TGlyphSet) (K : GsK s) (nm : ByteArray) : ∀ (k : Nat) (i : Int), (ordG s)[k]? = some i → ∀ es, MemoOK s.fGlyphs nm es →
    PM Tryz.prog 127 (some .i64) es [.d s.D, .d (.int .i64 i), .d (.str nm)] (.tup [.d (anPt (anV s.fGlyphs nm i)).D, .d (.bool (anV s.fGlyphs nm i).isSome)]) (MemoOK s.fGlyphs nm) := by
  intro k
  induction k using Nat.strongRecOn with
  | ind k ih =>
  intro i hk es HM
  refine pm_intro ttOk (by kernel_rfl) Tryz.func127 rfl (by kernel_rfl) (by kernel_rfl) (by kernel_rfl) rfl rfl HM.fl (fun es' h => h.fl) (fun cc st gg t hw => ?_)
  have hL : (s.fGlyphs.map TGlyph.D).length = s.fGlyphs.length := List.length_map _
  have h40 := K.len
  obtain ⟨g, hi0, hg⟩ := K.at hk
  have hg' : (s.fGlyphs.map TGlyph.D)[i.toNat]? = some g.D := by rw [List.getElem?_map, hg]; rfl
  have hgB := gl_small (K.gl g (List.mem_of_getElem? hg))
  have hE := anV_eq K.ord (nm := nm) hk hg
  have c3 := anchorAt_v g.fAnchors nm
  have hPl : (g.fParts.map TPart.D).length = g.fParts.length := List.length_map _
  (conv => whnf)
  (repeat (refine stg_ ?_))
  refine LkW.at (fun v hv => ?_) (fun hn => ?_)
  · obtain rfl := HM.ok _ _ hv
    generalize anV s.fGlyphs nm i = o at *
    (conv => whnf)
    (repeat ((fail_if_success (with_reducible apply RegD.id)); (refine stg_ ?_)))
    refine RegD.cutT [(8, .pB 4 [] 0), (9, .d (.bool o.isSome))] [.gone, .gho cc st gg 0 t, .mp (some .i64) es, .gone, .box (.d (anPt o).D)] trRt (by kernel_rfl) ?_ ?_
    · (conv => whnf)
      repeat' (first | (refine stg_ ?_) | (refine And.intro ?_ ?_ <;> (conv => whnf)))
      all_goals (refine Weak.cov ?_ ?_ ?_; (focus (repeat' (first | exact trivial | with_reducible rfl | (refine ⟨?_, ?_⟩) | rfl))); (focus (repeat' (first | exact trivial | with_reducible rfl | (refine ⟨?_, ?_⟩) | rfl))); (focus rfl))
    · (conv => whnf)
      exact ⟨rfl, es, _, rfl, HM⟩
  · (conv => whnf)
    (repeat' (first | (refine stg_ ?_) | (refine IxW.at hi0 hg' ?_; (conv => whnf)) | (refine br_ (fun hbr => ?_) (fun hbr => ?_))))
    refine LkW.at (fun v hv => ?_) (fun _ => ?_)
    · rw [hn] at hv; cases hv
    (conv => whnf)
    rcases fdx_find (anEq nm) g.fAnchors 0 with ⟨f1, f2⟩ | ⟨j, a, f1, f2, f3⟩
    · rw [f1] at c3
      rw [anO, f2] at hE
      simp only [Option.map_none] at hE
      (repeat' (first | (refine stg_ ?_) | (refine cla_ (c3) ?_) | (refine br_ (fun hbr => ?_) (fun hbr => ?_))))
      all_goals first | (exfalso; omega) | skip
      refine LoopW.go (α := Nat × Option TPt × List (D × D)) (fun p => [(1, .d (.int .i64 i)), (2, .d (.str nm)), (3, .pB 2 [] 1000000007), (4, .pB 3 [] 0), (8, .pB 4 [] 0), (13, .pB 7 [] 0), (53, .d (.lst (g.fParts.map TPart.D))), (54, .d (.int .i64 (g.fParts.map TPart.D).length)), (55, .d (.int .i64 (p.1 : Nat)))])
        (fun p => [.gone, .gho cc st gg 0 t, .mp (some .i64) p.2.2, .box (.d s.D), .box (.st [.d (.int .i64 0), .d (.int .i64 0)]), .gone, .gone, .box (.d (anD p.2.1))])
        (fun p => p.1 ≤ g.fParts.length ∧ MemoOK s.fGlyphs nm p.2.2 ∧ anV s.fGlyphs nm i = match p.2.1 with | some q => some q | none => anP (anV s.fGlyphs nm) (g.fParts.drop p.1)) (fun p => g.fParts.length - p.1) (0, none, es) (Weak.trans (Weak.boxz 7 rfl rfl rfl) covT_) ⟨by dsimp only; omega, HM, hE⟩ ?_
      rintro ⟨j, o, es1⟩ ⟨hj, HM1, hV⟩
      dsimp only at hj HM1 hV ⊢
      rcases Nat.lt_or_ge j g.fParts.length with hlt | hge
      · obtain ⟨y, hy⟩ := at_lt' (xs := g.fParts) (k := j) hlt
        cases o with
        | some q =>
          dsimp only at hV
          have hAD : anD (some q) = .st [q.D, .bool true] := rfl
          (conv => whnf)
          (refine br_ (fun h2 => ?_) (fun h2 => ?_))
          · (repeat ((fail_if_success (with_reducible apply RegD.id)); (refine stg_ ?_)))
            refine RegD.cutT [(8, .pB 4 [] 0), (9, .d (.bool ((some q) : Option TPt).isSome))] [.gone, .gho cc st gg 0 t, .mp (some .i64) (updD es1 (.int .i64 i) (anD (some q))), .gone, .box (.d (anPt (some q)).D)] trRt (by kernel_rfl) ?_ ?_
            · (conv => whnf)
              repeat' (first | (refine stg_ ?_) | (refine And.intro ?_ ?_ <;> (conv => whnf)))
              all_goals (refine Weak.cov ?_ ?_ ?_; (focus (repeat' (first | exact trivial | with_reducible rfl | (refine ⟨?_, ?_⟩) | rfl))); (focus (repeat' (first | exact trivial | with_reducible rfl | (refine ⟨?_, ?_⟩) | rfl))); (focus rfl))
            · (conv => whnf)
              rw [hV]; exact ⟨rfl, _, _, rfl, by have := HM1.put i; rw [hV] at this; exact this⟩
          · exfalso; omega
        | none =>
          dsimp only at hV
          have hAD : anD none = .st [TPt.D ⟨0, 0⟩, .bool false] := rfl
          rw [anP_cons hy] at hV
          obtain ⟨k2, hk2, hk3⟩ := K.ord.part hk hg (List.mem_of_getElem? hy)
          obtain ⟨g2, hy0, hg2⟩ := K.at hk3
          have hmv := (K.ins g (List.mem_of_getElem? hg)).2 y (List.mem_of_getElem? hy)
          unfold ptIn at hmv
          have pm := ih k2 hk2 y.fGlyph hk3 es1 HM1
          (conv => whnf)
          (refine br_ (fun h2 => ?_) (fun h2 => ?_))
          · (repeat ((fail_if_success (with_reducible apply RegD.id)); (refine stg_ ?_)))
            refine CallW.useM pm rfl rfl rfl rfl rfl (fun es2 HM2 => ?_)
            have hin := fun q2 h => anV_in (q := q2) K.ins K.len (nm := nm) (i := y.fGlyph) h
            generalize anV s.fGlyphs nm y.fGlyph = o2 at *
            cases o2 with
            | none =>
              (conv => whnf)
              (repeat' (first | (refine stg_ ?_) | fail | (refine br_ (fun hbr => ?_) (fun hbr => ?_))))
              refine NextW.go (j + 1, none, es2) covT_ ⟨by dsimp only; omega, HM2, hV⟩ (by dsimp only; omega)
            | some q2 =>
              have hq2 := hin q2 rfl
              have hq3 : ptIn 10747904 (anPt (some q2)) := hq2
              unfold ptIn at hq2 hq3
              (conv => whnf)
              (repeat' (first | (refine stg_ ?_) | fail | (refine br_ (fun hbr => ?_) (fun hbr => ?_))))
              refine NextW.go (j + 1, some ⟨q2.fX + y.fMove.fX, q2.fY + y.fMove.fY⟩, es2) (Weak.trans (Weak.boxz 7 rfl rfl rfl) covT_) ⟨by dsimp only; omega, HM2, hV⟩ (by dsimp only; omega)
          · exfalso; omega
      · have hj' : j = g.fParts.length := by omega
        subst hj'
        rw [anP_end (Nat.le_refl _)] at hV
        cases o with
        | some q =>
          dsimp only at hV
          (conv => whnf)
          (refine br_ (fun h2 => ?_) (fun h2 => ?_))
          · exfalso; omega
          · (repeat ((fail_if_success (with_reducible apply RegD.id)); (refine stg_ ?_)))
            refine RegD.cutT [(8, .pB 4 [] 0), (9, .d (.bool ((some q) : Option TPt).isSome))] [.gone, .gho cc st gg 0 t, .mp (some .i64) (updD es1 (.int .i64 i) (anD (some q))), .gone, .box (.d (anPt (some q)).D)] trRt (by kernel_rfl) ?_ ?_
            · (conv => whnf)
              repeat' (first | (refine stg_ ?_) | (refine And.intro ?_ ?_ <;> (conv => whnf)))
              all_goals (refine Weak.cov ?_ ?_ ?_; (focus (repeat' (first | exact trivial | with_reducible rfl | (refine ⟨?_, ?_⟩) | rfl))); (focus (repeat' (first | exact trivial | with_reducible rfl | (refine ⟨?_, ?_⟩) | rfl))); (focus rfl))
            · (conv => whnf)
              rw [hV]; exact ⟨rfl, _, _, rfl, by have := HM1.put i; rw [hV] at this; exact this⟩
        | none =>
          dsimp only at hV
          (conv => whnf)
          (refine br_ (fun h2 => ?_) (fun h2 => ?_))
          · exfalso; omega
          · (repeat ((fail_if_success (with_reducible apply RegD.id)); (refine stg_ ?_)))
            refine RegD.cutT [(8, .pB 4 [] 0), (9, .d (.bool (none : Option TPt).isSome))] [.gone, .gho cc st gg 0 t, .mp (some .i64) (updD es1 (.int .i64 i) (anD none)), .gone, .box (.d (anPt none).D)] trRt (by kernel_rfl) ?_ ?_
            · (conv => whnf)
              repeat' (first | (refine stg_ ?_) | (refine And.intro ?_ ?_ <;> (conv => whnf)))
              all_goals (refine Weak.cov ?_ ?_ ?_; (focus (repeat' (first | exact trivial | with_reducible rfl | (refine ⟨?_, ?_⟩) | rfl))); (focus (repeat' (first | exact trivial | with_reducible rfl | (refine ⟨?_, ?_⟩) | rfl))); (focus rfl))
            · (conv => whnf)
              rw [hV]; exact ⟨rfl, _, _, rfl, by have := HM1.put i; rw [hV] at this; exact this⟩
    · rw [f1, Nat.zero_add] at c3
      rw [anO, f3] at hE
      simp only [Option.map_some] at hE
      have ha' : (g.fAnchors.map TAnchor.D)[j]? = some a.D := by rw [List.getElem?_map, f2]; rfl
      (repeat' (first | (refine stg_ ?_) | (refine cla_ (c3) ?_) | (refine IxW.at (by omega) ha' ?_; (conv => whnf)) | (refine br_ (fun hbr => ?_) (fun hbr => ?_))))
      all_goals first | (exfalso; omega) | skip
      refine LoopW.go (α := Nat × Option TPt × List (D × D)) (fun p => [(1, .d (.int .i64 i)), (2, .d (.str nm)), (3, .pB 2 [] 1000000007), (4, .pB 3 [] 0), (8, .pB 4 [] 0), (13, .pB 7 [] 0), (53, .d (.lst (g.fParts.map TPart.D))), (54, .d (.int .i64 (g.fParts.map TPart.D).length)), (55, .d (.int .i64 (p.1 : Nat)))])
        (fun p => [.gone, .gho cc st gg 0 t, .mp (some .i64) p.2.2, .box (.d s.D), .box (.st [.d (.int .i64 0), .d (.int .i64 0)]), .gone, .gone, .box (.d (anD p.2.1))])
        (fun p => p.1 ≤ g.fParts.length ∧ MemoOK s.fGlyphs nm p.2.2 ∧ anV s.fGlyphs nm i = match p.2.1 with | some q => some q | none => anP (anV s.fGlyphs nm) (g.fParts.drop p.1)) (fun p => g.fParts.length - p.1) (0, some a.fAt, es) (Weak.trans (Weak.boxz 7 rfl rfl rfl) covT_) ⟨by dsimp only; omega, HM, hE⟩ ?_
      rintro ⟨j, o, es1⟩ ⟨hj, HM1, hV⟩
      dsimp only at hj HM1 hV ⊢
      rcases Nat.lt_or_ge j g.fParts.length with hlt | hge
      · obtain ⟨y, hy⟩ := at_lt' (xs := g.fParts) (k := j) hlt
        cases o with
        | some q =>
          dsimp only at hV
          have hAD : anD (some q) = .st [q.D, .bool true] := rfl
          (conv => whnf)
          (refine br_ (fun h2 => ?_) (fun h2 => ?_))
          · (repeat ((fail_if_success (with_reducible apply RegD.id)); (refine stg_ ?_)))
            refine RegD.cutT [(8, .pB 4 [] 0), (9, .d (.bool ((some q) : Option TPt).isSome))] [.gone, .gho cc st gg 0 t, .mp (some .i64) (updD es1 (.int .i64 i) (anD (some q))), .gone, .box (.d (anPt (some q)).D)] trRt (by kernel_rfl) ?_ ?_
            · (conv => whnf)
              repeat' (first | (refine stg_ ?_) | (refine And.intro ?_ ?_ <;> (conv => whnf)))
              all_goals (refine Weak.cov ?_ ?_ ?_; (focus (repeat' (first | exact trivial | with_reducible rfl | (refine ⟨?_, ?_⟩) | rfl))); (focus (repeat' (first | exact trivial | with_reducible rfl | (refine ⟨?_, ?_⟩) | rfl))); (focus rfl))
            · (conv => whnf)
              rw [hV]; exact ⟨rfl, _, _, rfl, by have := HM1.put i; rw [hV] at this; exact this⟩
          · exfalso; omega
        | none =>
          dsimp only at hV
          have hAD : anD none = .st [TPt.D ⟨0, 0⟩, .bool false] := rfl
          rw [anP_cons hy] at hV
          obtain ⟨k2, hk2, hk3⟩ := K.ord.part hk hg (List.mem_of_getElem? hy)
          obtain ⟨g2, hy0, hg2⟩ := K.at hk3
          have hmv := (K.ins g (List.mem_of_getElem? hg)).2 y (List.mem_of_getElem? hy)
          unfold ptIn at hmv
          have pm := ih k2 hk2 y.fGlyph hk3 es1 HM1
          (conv => whnf)
          (refine br_ (fun h2 => ?_) (fun h2 => ?_))
          · (repeat ((fail_if_success (with_reducible apply RegD.id)); (refine stg_ ?_)))
            refine CallW.useM pm rfl rfl rfl rfl rfl (fun es2 HM2 => ?_)
            have hin := fun q2 h => anV_in (q := q2) K.ins K.len (nm := nm) (i := y.fGlyph) h
            generalize anV s.fGlyphs nm y.fGlyph = o2 at *
            cases o2 with
            | none =>
              (conv => whnf)
              (repeat' (first | (refine stg_ ?_) | fail | (refine br_ (fun hbr => ?_) (fun hbr => ?_))))
              refine NextW.go (j + 1, none, es2) covT_ ⟨by dsimp only; omega, HM2, hV⟩ (by dsimp only; omega)
            | some q2 =>
              have hq2 := hin q2 rfl
              have hq3 : ptIn 10747904 (anPt (some q2)) := hq2
              unfold ptIn at hq2 hq3
              (conv => whnf)
              (repeat' (first | (refine stg_ ?_) | fail | (refine br_ (fun hbr => ?_) (fun hbr => ?_))))
              refine NextW.go (j + 1, some ⟨q2.fX + y.fMove.fX, q2.fY + y.fMove.fY⟩, es2) (Weak.trans (Weak.boxz 7 rfl rfl rfl) covT_) ⟨by dsimp only; omega, HM2, hV⟩ (by dsimp only; omega)
          · exfalso; omega
      · have hj' : j = g.fParts.length := by omega
        subst hj'
        rw [anP_end (Nat.le_refl _)] at hV
        cases o with
        | some q =>
          dsimp only at hV
          (conv => whnf)
          (refine br_ (fun h2 => ?_) (fun h2 => ?_))
          · exfalso; omega
          · (repeat ((fail_if_success (with_reducible apply RegD.id)); (refine stg_ ?_)))
            refine RegD.cutT [(8, .pB 4 [] 0), (9, .d (.bool ((some q) : Option TPt).isSome))] [.gone, .gho cc st gg 0 t, .mp (some .i64) (updD es1 (.int .i64 i) (anD (some q))), .gone, .box (.d (anPt (some q)).D)] trRt (by kernel_rfl) ?_ ?_
            · (conv => whnf)
              repeat' (first | (refine stg_ ?_) | (refine And.intro ?_ ?_ <;> (conv => whnf)))
              all_goals (refine Weak.cov ?_ ?_ ?_; (focus (repeat' (first | exact trivial | with_reducible rfl | (refine ⟨?_, ?_⟩) | rfl))); (focus (repeat' (first | exact trivial | with_reducible rfl | (refine ⟨?_, ?_⟩) | rfl))); (focus rfl))
            · (conv => whnf)
              rw [hV]; exact ⟨rfl, _, _, rfl, by have := HM1.put i; rw [hV] at this; exact this⟩
        | none =>
          dsimp only at hV
          (conv => whnf)
          (refine br_ (fun h2 => ?_) (fun h2 => ?_))
          · exfalso; omega
          · (repeat ((fail_if_success (with_reducible apply RegD.id)); (refine stg_ ?_)))
            refine RegD.cutT [(8, .pB 4 [] 0), (9, .d (.bool (none : Option TPt).isSome))] [.gone, .gho cc st gg 0 t, .mp (some .i64) (updD es1 (.int .i64 i) (anD none)), .gone, .box (.d (anPt none).D)] trRt (by kernel_rfl) ?_ ?_
            · (conv => whnf)
              repeat' (first | (refine stg_ ?_) | (refine And.intro ?_ ?_ <;> (conv => whnf)))
              all_goals (refine Weak.cov ?_ ?_ ?_; (focus (repeat' (first | exact trivial | with_reducible rfl | (refine ⟨?_, ?_⟩) | rfl))); (focus (repeat' (first | exact trivial | with_reducible rfl | (refine ⟨?_, ?_⟩) | rfl))); (focus rfl))
            · (conv => whnf)
              rw [hV]; exact ⟨rfl, _, _, rfl, by have := HM1.put i; rw [hV] at this; exact this⟩
theorem name_sz {s : ByteArray} (h : nameB s = true) : s.size ≤ 12 := by
  simp only [nameB, Bool.and_eq_true, decide_eq_true_eq] at h
  exact h.1
theorem mk_anchor {f : TFeatures} (h : ftB f = true) {k : TMarkRule} (hk : k ∈ f.fMarks) : k.fAnchor.size ≤ 12 := by
  have h1 := (ftB_F h).mar k hk
  simp only [mkB, Bool.and_eq_true] at h1
  exact name_sz h1.2.2
theorem l06Sub_v (a b : TPt) (ha : pntB a = true) (hb : pntB b = true) : PC Tryz.prog 124 [.d a.D, .d b.D] (.d (TPt.D ⟨a.fX - b.fX, a.fY - b.fY⟩)) [] := by
  refine pc_intro ttOk (by kernel_rfl) Tryz.func124 rfl (by kernel_rfl) (by kernel_rfl) (by kernel_rfl) (fun hw => ?_)
  have h1 := pnt_in ha
  have h2 := pnt_in hb
  (conv => whnf)
  (repeat' (first | (refine stg_ ?_) | fail | (refine br_ (fun hbr => ?_) (fun hbr => ?_))))
  (refine RetOK.d rfl rfl ?_; conv => whnf)
  (all_goals first | rfl | exact ⟨_, rfl, _, _, rfl, rfl, _, _, rfl, rfl, rfl⟩)
set_option maxHeartbeats 4000000 in
theorem markOffset_v (s : TGlyphSet) (K : GsK s) (f : TFeatures) (hf : ftB f = true) (m b : Int) (hm0 : 0 ≤ m) (hm1 : m.toNat < s.fGlyphs.length) (hb0 : 0 ≤ b) (hb1 : b.toNat < s.fGlyphs.length) :
    PC Tryz.prog 74 [.d s.D, .d f.D, .d (.int .i64 m), .d (.int .i64 b)] (.tup [.d (anPt (moV s.fGlyphs f m b)).D, .d (.bool (moV s.fGlyphs f m b).isSome)]) [] := by
  refine pc_intro ttOk (by kernel_rfl) Tryz.func74 rfl (by kernel_rfl) (by kernel_rfl) (by kernel_rfl) (fun hw => ?_)
  have hL : (f.fMarks.map TMarkRule.D).length = f.fMarks.length := List.length_map _
  have c1 := markFor_v f m b
  have hV : moV s.fGlyphs f m b = match f.fMarks.find? (maP m b) with | none => none | some k => moR s.fGlyphs k m b := rfl
  generalize moV s.fGlyphs f m b = R at *
  rcases fdx_find (maP m b) f.fMarks 0 with ⟨f1, f2⟩ | ⟨j, k, f1, f2, f3⟩
  · rw [f2] at hV
    dsimp only at hV
    subst hV
    rw [f1] at c1
    (conv => whnf)
    (repeat' (first | (refine stg_ ?_) | (refine cla_ (c1) ?_) | (refine br_ (fun hbr => ?_) (fun hbr => ?_))))
    all_goals first | (exfalso; omega) | ((refine RetOK.t rfl ?_; (repeat' ((conv => whnf); (first | done | (refine ⟨_, _, rfl, ⟨rfl, ?_⟩, ?_⟩) | fail))); (all_goals (conv => whnf))); (all_goals first | rfl | exact ⟨_, rfl, _, _, rfl, rfl, _, _, rfl, rfl, rfl⟩))
  · rw [f3] at hV
    dsimp only at hV
    rw [f1, Nat.zero_add] at c1
    have hk' : (f.fMarks.map TMarkRule.D)[j]? = some k.D := by rw [List.getElem?_map, f2]; rfl
    have hsz := mk_anchor hf (List.mem_of_getElem? f2)
    obtain ⟨kb, hkb⟩ := K.pos hb0 hb1
    obtain ⟨km, hkm⟩ := K.pos hm0 hm1
    have p1 := anchorOf_pm s K k.fAnchor kb b hkb [] (MemoOK.nil _ _)
    have p2 := anchorOf_pm s K (markN ++ k.fAnchor) km m hkm [] (MemoOK.nil _ _)
    rw [moR] at hV
    generalize anV s.fGlyphs k.fAnchor b = o1 at *
    generalize anV s.fGlyphs (markN ++ k.fAnchor) m = o2 at *
    have c3 := validPts_v [anPt o1, anPt o2]
    have hV' : R = if (o1.isSome && (o2.isSome && (pntB (anPt o1) && pntB (anPt o2)))) = true then some ⟨(anPt o1).fX - (anPt o2).fX, (anPt o1).fY - (anPt o2).fY⟩ else none := by
      rw [hV]
      cases o1 <;> cases o2 <;> simp [anPt]
    clear hV
    have hall : [anPt o1, anPt o2].all pntB = (pntB (anPt o1) && (pntB (anPt o2) && true)) := rfl
    rw [hall] at c3
    have hb1 := @pnt_in (anPt o1)
    have hb2 := @pnt_in (anPt o2)
    generalize pntB (anPt o1) = P1 at *
    generalize pntB (anPt o2) = P2 at *
    clear hall
    generalize hQ1 : o1.isSome = Q1 at *
    generalize hQ2 : o2.isSome = Q2 at *
    generalize anPt o1 = t at *
    generalize anPt o2 = u at *
    rw [Bool.and_true] at c3
    cases hall : (Q1 && (Q2 && (P1 && P2))) with
    | false =>
      rw [hall, if_neg (by simp)] at hV'
      subst hV'
      (conv => whnf)
      (repeat' (first | (refine stg_ ?_) | (refine cla_ (c1) ?_) | (refine IxW.at (by omega) hk' ?_; (conv => whnf)) | (refine CallW.useM p1 rfl rfl rfl rfl rfl (fun _ _ => ?_); (conv => whnf)) | (refine CallW.useM p2 rfl rfl rfl rfl rfl (fun _ _ => ?_); (conv => whnf)) | (refine CatW.at (by show _ ≤ 9223372036854775807; (show 5 + k.fAnchor.size ≤ 9223372036854775807); omega) ?_; (conv => whnf)) | (refine cla_ (c3) ?_) | (refine br_ (fun hbr => ?_) (fun hbr => ?_))))
      all_goals first | (exfalso; omega) | (exfalso; simp_all; done) | ((refine RetOK.t rfl ?_; (repeat' ((conv => whnf); (first | done | (refine ⟨_, _, rfl, ⟨rfl, ?_⟩, ?_⟩) | fail))); (all_goals (conv => whnf))); (all_goals first | rfl | exact ⟨_, rfl, _, _, rfl, rfl, _, _, rfl, rfl, rfl⟩))
    | true =>
      rw [hall, if_pos rfl] at hV'
      subst hV'
      simp only [Bool.and_eq_true] at hall
      obtain ⟨rfl, rfl, rfl, rfl⟩ := hall
      have hb1 := hb1 rfl
      have hb2 := hb2 rfl
      (conv => whnf)
      (repeat' (first | (refine stg_ ?_) | (refine cla_ (c1) ?_) | (refine IxW.at (by omega) hk' ?_; (conv => whnf)) | (refine CallW.useM p1 rfl rfl rfl rfl rfl (fun _ _ => ?_); (conv => whnf)) | (refine CallW.useM p2 rfl rfl rfl rfl rfl (fun _ _ => ?_); (conv => whnf)) | (refine CatW.at (by show _ ≤ 9223372036854775807; (show 5 + k.fAnchor.size ≤ 9223372036854775807); omega) ?_; (conv => whnf)) | (refine cla_ (c3) ?_) | (refine br_ (fun hbr => ?_) (fun hbr => ?_))))
      all_goals first | (exfalso; omega) | (exfalso; simp_all; done) | skip
      all_goals ((refine RetOK.t rfl ?_; (repeat' ((conv => whnf); (first | done | (refine ⟨_, _, rfl, ⟨rfl, ?_⟩, ?_⟩) | fail))); (all_goals (conv => whnf))); (all_goals first | rfl | exact ⟨_, rfl, _, _, rfl, rfl, _, _, rfl, rfl, rfl⟩))
theorem aaV_ok {s : TGlyphSet} {nm : ByteArray} {i : Int} (h : ((anV s.fGlyphs nm i).isSome && pntB (anPt (anV s.fGlyphs nm i))) = true) : aaV s nm i = (anPt (anV s.fGlyphs nm i), 0) := by
  unfold aaV
  cases hV : anV s.fGlyphs nm i with
  | none => rw [hV] at h; cases h
  | some r =>
    rw [hV] at h
    simp only [Bool.and_eq_true] at h
    dsimp only
    rw [if_pos (show pntB r = true from h.2)]
    rfl
theorem aaV_no {s : TGlyphSet} {nm : ByteArray} {i : Int} (h : ((anV s.fGlyphs nm i).isSome && pntB (anPt (anV s.fGlyphs nm i))) = false) : (aaV s nm i).1 = ⟨0, 0⟩ ∧ ((aaV s nm i).2 = 2 ∨ (aaV s nm i).2 = 3) := by
  unfold aaV
  cases hV : anV s.fGlyphs nm i with
  | none => exact ⟨rfl, .inr rfl⟩
  | some r =>
    rw [hV] at h
    dsimp only
    rw [if_neg (by intro q; rw [show pntB (anPt (some r)) = true from q] at h; cases h)]
    exact ⟨rfl, .inl rfl⟩
set_option maxHeartbeats 4000000 in
theorem l27Offset_v (s : TGlyphSet) (K : GsK s) (f : TFeatures) (hf : ftB f = true) (m b : Int) (hm0 : 0 ≤ m) (hm1 : m.toNat < s.fGlyphs.length) (hb0 : 0 ≤ b) (hb1 : b.toNat < s.fGlyphs.length) :
    PC Tryz.prog 71 [.pX s.D, .pX f.D, .d (.int .i64 m), .d (.int .i64 b)] (.tup [.d (anPt (moV s.fGlyphs f m b)).D, .d (.bool (moV s.fGlyphs f m b).isSome)]) [] := by
  refine pc_intro ttOk (by kernel_rfl) Tryz.func71 rfl (by kernel_rfl) (by kernel_rfl) (by kernel_rfl) (fun hw => ?_)
  have hL : (f.fMarks.map TMarkRule.D).length = f.fMarks.length := List.length_map _
  have c1 := l27Mark_v f m b
  have hV : moV s.fGlyphs f m b = match f.fMarks.find? (maP m b) with | none => none | some k => moR s.fGlyphs k m b := rfl
  generalize moV s.fGlyphs f m b = R at *
  rcases fdx_find (maP m b) f.fMarks 0 with ⟨f1, f2⟩ | ⟨j, k, f1, f2, f3⟩
  · rw [f2] at hV
    dsimp only at hV
    subst hV
    rw [f1] at c1
    (conv => whnf)
    (repeat' (first | (refine stg_ ?_) | (refine cla_ (c1) ?_) | (refine br_ (fun hbr => ?_) (fun hbr => ?_))))
    all_goals first | (exfalso; omega) | ((refine RetOK.t rfl ?_; (repeat' ((conv => whnf); (first | done | (refine ⟨_, _, rfl, ⟨rfl, ?_⟩, ?_⟩) | fail))); (all_goals (conv => whnf))); (all_goals first | rfl | exact ⟨_, rfl, _, _, rfl, rfl, _, _, rfl, rfl, rfl⟩))
  · rw [f3] at hV
    dsimp only at hV
    rw [f1, Nat.zero_add] at c1
    have hk' : (f.fMarks.map TMarkRule.D)[j]? = some k.D := by rw [List.getElem?_map, f2]; rfl
    have hsz := mk_anchor hf (List.mem_of_getElem? f2)
    have p1 := l17AnchorAt_v s K b k.fAnchor hb0 hb1
    have p2 := l17AnchorAt_v s K m (markN ++ k.fAnchor) hm0 hm1
    rw [moR] at hV
    have y1 := @aaV_ok s k.fAnchor b
    have n1 := @aaV_no s k.fAnchor b
    have y2 := @aaV_ok s (markN ++ k.fAnchor) m
    have n2 := @aaV_no s (markN ++ k.fAnchor) m
    generalize anV s.fGlyphs k.fAnchor b = o1 at *
    generalize anV s.fGlyphs (markN ++ k.fAnchor) m = o2 at *
    generalize aaV s k.fAnchor b = a1 at *
    generalize aaV s (markN ++ k.fAnchor) m = a2 at *
    have hV' : R = if ((o1.isSome && pntB (anPt o1)) && (o2.isSome && pntB (anPt o2))) = true then some ⟨(anPt o1).fX - (anPt o2).fX, (anPt o1).fY - (anPt o2).fY⟩ else none := by
      rw [hV]
      cases o1 <;> cases o2 <;> simp [anPt]
    clear hV
    have c5 := l06Sub_v (anPt o1) (anPt o2)
    cases q1 : (o1.isSome && pntB (anPt o1)) with
    | false =>
      obtain ⟨e1, e2⟩ := n1 q1
      rw [q1, Bool.false_and, if_neg (by simp)] at hV'
      subst hV'
      obtain ⟨a11, a12⟩ := a1
      obtain ⟨a21, a22⟩ := a2
      dsimp only at e1 e2
      subst e1
      rcases e2 with rfl | rfl <;> (conv => whnf) <;> (repeat' (first | (refine stg_ ?_) | (refine cla_ (c1) ?_) | (refine IxW.at (by omega) hk' ?_; (conv => whnf)) | (refine CatW.at (by show _ ≤ 9223372036854775807; (show 5 + k.fAnchor.size ≤ 9223372036854775807); omega) ?_; (conv => whnf)) | (refine cla_ (p1) ?_) | (refine cla_ (p2) ?_) | (refine br_ (fun hbr => ?_) (fun hbr => ?_)))) <;> first | (exfalso; omega) | (exfalso; simp_all; done) | ((refine RetOK.t rfl ?_; (repeat' ((conv => whnf); (first | done | (refine ⟨_, _, rfl, ⟨rfl, ?_⟩, ?_⟩) | fail))); (all_goals (conv => whnf))); (all_goals first | rfl | exact ⟨_, rfl, _, _, rfl, rfl, _, _, rfl, rfl, rfl⟩))
    | true =>
      have e1 := y1 q1
      subst e1
      cases q2 : (o2.isSome && pntB (anPt o2)) with
      | false =>
        obtain ⟨e1, e2⟩ := n2 q2
        rw [q1, q2, Bool.true_and, if_neg (by simp)] at hV'
        subst hV'
        obtain ⟨a21, a22⟩ := a2
        dsimp only at e1 e2
        subst e1
        rcases e2 with rfl | rfl <;> (conv => whnf) <;> (repeat' (first | (refine stg_ ?_) | (refine cla_ (c1) ?_) | (refine IxW.at (by omega) hk' ?_; (conv => whnf)) | (refine CatW.at (by show _ ≤ 9223372036854775807; (show 5 + k.fAnchor.size ≤ 9223372036854775807); omega) ?_; (conv => whnf)) | (refine cla_ (p1) ?_) | (refine cla_ (p2) ?_) | (refine br_ (fun hbr => ?_) (fun hbr => ?_)))) <;> first | (exfalso; omega) | (exfalso; simp_all; done) | ((refine RetOK.t rfl ?_; (repeat' ((conv => whnf); (first | done | (refine ⟨_, _, rfl, ⟨rfl, ?_⟩, ?_⟩) | fail))); (all_goals (conv => whnf))); (all_goals first | rfl | exact ⟨_, rfl, _, _, rfl, rfl, _, _, rfl, rfl, rfl⟩))
      | true =>
        have e2 := y2 q2
        subst e2
        rw [q1, q2, Bool.true_and, if_pos rfl] at hV'
        subst hV'
        simp only [Bool.and_eq_true] at q1 q2
        have c5 := c5 q1.2 q2.2
        (conv => whnf)
        (repeat' (first | (refine stg_ ?_) | (refine cla_ (c1) ?_) | (refine IxW.at (by omega) hk' ?_; (conv => whnf)) | (refine CatW.at (by show _ ≤ 9223372036854775807; (show 5 + k.fAnchor.size ≤ 9223372036854775807); omega) ?_; (conv => whnf)) | (refine cla_ (p1) ?_) | (refine cla_ (p2) ?_) | (refine cla_ (c5) ?_) | (refine br_ (fun hbr => ?_) (fun hbr => ?_))))
        all_goals first | (exfalso; omega) | (exfalso; simp_all; done) | ((refine RetOK.t rfl ?_; (repeat' ((conv => whnf); (first | done | (refine ⟨_, _, rfl, ⟨rfl, ?_⟩, ?_⟩) | fail))); (all_goals (conv => whnf))); (all_goals first | rfl | exact ⟨_, rfl, _, _, rfl, rfl, _, _, rfl, rfl, rfl⟩))
def moOK (s : TGlyphSet) (f : TFeatures) (m b : Int) : Prop := gsB s = true ∧ ftB f = true ∧ (0 ≤ m ∧ m < (s.fGlyphs.length : Nat)) ∧ 0 ≤ b ∧ b < (s.fGlyphs.length : Nat)
instance (s : TGlyphSet) (f : TFeatures) (m b : Int) : Decidable (moOK s f m b) := by unfold moOK; exact inferInstance
theorem adv_at {gs : List TGlyph} {i : Int} {g : TGlyph} (h : gs[i.toNat]? = some g) : plG.adv gs i = g.fAdvance := by
  unfold plG.adv
  rw [h]
def itIn (gs : List TGlyph) (xs : List TItem) : Prop := ∀ x ∈ xs, 0 ≤ x.fGlyph ∧ x.fGlyph.toNat < gs.length
structure BsOK (gs : List TGlyph) (out : List TSlot) (bs : Option (Nat × TSlot)) (m : Int) : Prop where
  at' : ∀ j b, bs = some (j, b) → out[j]? = some b ∧ (0 ≤ b.fGlyph ∧ b.fGlyph.toNat < gs.length) ∧ (-m ≤ b.fX ∧ b.fX ≤ m) ∧ b.fY = 0
def bsI : Option (Nat × TSlot) → Int
  | none => -1
  | some (j, _) => j
theorem BsOK.none (gs : List TGlyph) (out : List TSlot) (m : Int) : BsOK gs out none m := ⟨fun _ _ h => by cases h⟩
theorem BsOK.snoc {gs : List TGlyph} {out : List TSlot} {bs : Option (Nat × TSlot)} {m m' : Int} (H : BsOK gs out bs m) (y : TSlot) (h : m ≤ m') : BsOK gs (out ++ [y]) bs m' := ⟨fun j b e => by
  obtain ⟨h1, h2, h3, h4⟩ := H.at' j b e
  exact ⟨get_app_left h1, h2, by omega, h4⟩⟩
theorem BsOK.new {gs : List TGlyph} {out : List TSlot} {y : TSlot} {m : Int} (h1 : 0 ≤ y.fGlyph ∧ y.fGlyph.toNat < gs.length) (h2 : -m ≤ y.fX ∧ y.fX ≤ m) (h3 : y.fY = 0) : BsOK gs (out ++ [y]) (some (out.length, y)) m := ⟨fun j b e => by
  cases e
  exact ⟨by simp, h1, h2, h3⟩⟩
def trPa : OT := .q 0 (.q 1 (.q 2 (.q 3 (.q 4 (.q 5 (.q 6 (.q 7 (.q 8 (.alt 9 (.q 10 (.q 11 (.q 12 (.alt 13 (.alt 14 (.q 15 .done) .nil) .nil)))) (.alt 13 (.alt 9 (.q 10 (.q 11 (.q 12 (.alt 14 (.q 15 .done) .nil)))) .nil) .nil))))))))))
def trPb : OT := .q 0 (.q 1 (.q 2 (.q 3 (.q 4 (.q 5 (.q 6 (.q 7 (.q 8 (.q 9 (.q 10 (.q 11 (.q 13 (.q 16 (.alt 12 (.alt 14 (.q 15 (.alt 17 (.q 18 (.alt 19 .done .nil)) .nil)) (.alt 17 (.q 14 (.q 15 (.q 18 (.alt 19 .done .nil)))) .nil)) (.alt 14 (.alt 12 (.q 15 (.alt 17 (.q 18 (.alt 19 .done .nil)) .nil)) (.alt 17 (.q 12 (.q 15 (.q 18 (.alt 19 .done .nil)))) .nil)) (.alt 17 (.q 12 (.q 14 (.q 15 (.q 18 (.alt 19 .done .nil))))) .nil))))))))))))))))
def trPc : OT := .q 0 (.q 1 (.q 3 (.q 8 (.alt 2 (.alt 4 (.q 5 (.q 6 (.alt 7 (.alt 9 (.q 10 (.alt 11 .done .nil)) .nil) (.alt 9 (.q 7 (.q 10 (.alt 11 .done .nil))) .nil)))) (.alt 9 (.q 4 (.q 5 (.q 6 (.q 7 (.q 10 (.alt 11 .done .nil)))))) .nil)) (.alt 4 (.alt 2 (.q 5 (.q 6 (.alt 7 (.alt 9 (.q 10 (.alt 11 .done .nil)) .nil) (.alt 9 (.q 7 (.q 10 (.alt 11 .done .nil))) .nil)))) (.alt 9 (.q 2 (.q 5 (.q 6 (.q 7 (.q 10 (.alt 11 .done .nil)))))) .nil)) (.alt 9 (.q 2 (.q 4 (.q 5 (.q 6 (.q 7 (.q 10 (.alt 11 .done .nil))))))) .nil))))))
set_option maxHeartbeats 8000000 in
theorem placeRun_v (s : TGlyphSet) (K : GsK s) (f : TFeatures) (hf : ftB f = true) (xs : List TItem) (hl : xs.length ≤ 60) (hx : itIn s.fGlyphs xs) :
    PC Tryz.prog 82 [.d s.D, .d f.D, .d (.lst (xs.map TItem.D))] (.own 1 0 xs.length) [.arr 6 ((plL s.fGlyphs f xs).map TSlot.D) true] := by
  refine pc_intro ttOk (by kernel_rfl) Tryz.func82 rfl (by kernel_rfl) (by kernel_rfl) (by kernel_rfl) (fun hw => ?_)
  have hL : (xs.map TItem.D).length = xs.length := List.length_map _
  have hLg : (s.fGlyphs.map TGlyph.D).length = s.fGlyphs.length := List.length_map _
  have h40 := K.len
  have hPl := plL_len s.fGlyphs f xs
  have hP0 : plL s.fGlyphs f xs = plG s.fGlyphs f xs none 0 := rfl
  generalize plL s.fGlyphs f xs = PL at *
  (conv => whnf)
  (repeat (refine stg_ ?_))
  refine LoopW.go (α := Nat × List TSlot × Option (Nat × TSlot) × Int) (fun p => [(3, .pB 1 [] 0), (4, .pB 2 [] 0), (7, .own 3 0 p.2.1.length), (8, .d (.int .i64 p.2.2.2)), (9, .d (.int .i64 (bsI p.2.2.1))), (15, .d (.lst (xs.map TItem.D))), (16, .d (.int .i64 (xs.map TItem.D).length)), (17, .d (.int .i64 (p.1 : Nat)))])
    (fun p => [.gone, .box (.d s.D), .box (.d f.D), .arr 6 (p.2.1.map TSlot.D) true])
    (fun p => (p.1 ≤ xs.length ∧ p.2.1.length = p.1) ∧ BsOK s.fGlyphs p.2.1 p.2.2.1 (p.1 * 524288) ∧ (-((p.1 : Nat) * 524288 : Int) ≤ p.2.2.2 ∧ p.2.2.2 ≤ (p.1 : Nat) * 524288) ∧ PL = p.2.1 ++ plG s.fGlyphs f (xs.drop p.1) (p.2.2.1.map Prod.snd) p.2.2.2)
    (fun p => xs.length - p.1) (0, [], none, 0) (Weak.trans (Weak.adopt (k := 7) rfl 6 true) covT_) ⟨⟨by dsimp only; omega, rfl⟩, BsOK.none _ _ _, by dsimp only; omega, hP0⟩ ?_
  clear hP0
  rintro ⟨k, out, bs, pen⟩ ⟨⟨h1, h2⟩, h3, h4, h5⟩
  dsimp only at h1 h2 h3 h4 h5 ⊢
  have hO : (out.map TSlot.D).length = out.length := List.length_map _
  have hO1 : ∀ y : TSlot, (out ++ [y]).length = out.length + 1 := fun y => by simp
  have hT : (out.map TSlot.D).take out.length = out.map TSlot.D := List.take_of_length_le (by omega)
  rcases Nat.lt_or_ge k xs.length with hlt | hge
  rotate_left
  · obtain rfl : k = xs.length := by omega
    rw [List.drop_length, plG, List.append_nil] at h5
    subst h5
    (conv => whnf)
    (repeat' (first | (refine stg_ ?_) | fail | (refine br_ (fun hbr => ?_) (fun hbr => ?_))))
    all_goals first | (exfalso; omega) | skip
    rw [← h2]
    (refine ⟨⟨[some 3], ⟨by decide, rfl, trivial, trivial⟩, by decide, rfl, ?_⟩⟩; (conv => whnf); exact ⟨by decide, rfl⟩)
  obtain ⟨x, hkx⟩ := at_lt' (xs := xs) (k := k) hlt
  have hxr := hx x (List.mem_of_getElem? hkx)
  obtain ⟨g, hg⟩ := at_lt' (xs := s.fGlyphs) (k := x.fGlyph.toNat) hxr.2
  have hg' : (s.fGlyphs.map TGlyph.D)[x.fGlyph.toNat]? = some g.D := by rw [List.getElem?_map, hg]; rfl
  have hadv := adv_at hg
  have hab := adv_in K.gl x.fGlyph
  rw [drop_at hkx] at h5
  cases bs with
  | none =>
    have hbn : bsI none = -1 := rfl
    rw [hbn]
    rw [Option.map_none, plG, hadv] at h5
    rw [hadv] at hab
    (conv => whnf)
    repeat' (first | ((fail_if_success (with_reducible apply RegD.id)); (first | (refine stg_ ?_) | (refine br_ (fun hbr => ?_) (fun hbr => ?_)))))
    all_goals first | (exfalso; omega) | (exfalso; simp_all [bsI]; done) | skip
    refine RegD.cutT [(3, .pB 1 [] 0), (4, .pB 2 [] 0), (7, .own 3 0 out.length), (8, .d (.int .i64 pen)), (9, .d (.int .i64 (-1))), (12, .pB 5 [] 0), (15, .d (.lst (xs.map TItem.D))), (16, .d (.int .i64 (xs.map TItem.D).length)), (17, .d (.int .i64 (k : Nat)))]
      [.gone, .box (.d s.D), .box (.d f.D), .arr 6 (out.map TSlot.D) true, .gone, .box (.st [.d (.int .i64 x.fGlyph), .d (.int .i64 pen), .d (.int .i64 0), .d (.int .i64 g.fAdvance), .d (.int .i64 x.fFrom), .d (.int .i64 x.fLen)])] trPc (by kernel_rfl) ?_ ?_
    · (conv => whnf)
      repeat' (first | (refine stg_ ?_) | (refine IxW.at hxr.1 hg' ?_; (conv => whnf)) | (refine And.intro ?_ ?_ <;> (conv => whnf)))
      all_goals (refine Weak.cov ?_ ?_ ?_; (focus (repeat' (first | exact trivial | with_reducible rfl | (refine ⟨?_, ?_⟩) | rfl))); (focus (repeat' (first | exact trivial | with_reducible rfl | (refine ⟨?_, ?_⟩) | rfl))); (focus rfl))
    · (conv => whnf)
      (repeat' (first | (refine stg_ ?_) | fail | (refine br_ (fun hbr => ?_) (fun hbr => ?_))))
      refine NextW.go (k + 1, out ++ [⟨x.fGlyph, pen, 0, g.fAdvance, x.fFrom, x.fLen⟩], some (out.length, ⟨x.fGlyph, pen, 0, g.fAdvance, x.fFrom, x.fLen⟩), pen + g.fAdvance) (Weak.cov ⟨rfl, rfl, by (show _ = V.own 3 0 (out ++ [_]).length; rw [hO1]; rfl), rfl, rfl, rfl, rfl, rfl, trivial⟩ ⟨trivial, rfl, rfl, by (show Blk.arr 6 ((out.map TSlot.D).take out.length ++ _) true = Blk.arr 6 ((out ++ [_]).map TSlot.D) true; rw [hT, List.map_append]; rfl), trivial⟩ rfl) ⟨⟨by dsimp only; omega, by rw [hO1]; dsimp only; omega⟩, BsOK.new hxr (by dsimp only; omega) rfl, by dsimp only; omega, by rw [h5]; simp⟩ (by dsimp only; omega)
  | some jb =>
    obtain ⟨j, b⟩ := jb
    obtain ⟨b1, b2, b3, b4⟩ := h3.at' j b rfl
    have hjl := (List.getElem?_eq_some_iff.1 b1).1
    have hb' : (out.map TSlot.D)[j]? = some b.D := by rw [List.getElem?_map, b1]; rfl
    have c1 := markOffset_v s K f hf x.fGlyph b.fGlyph hxr.1 hxr.2 b2.1 b2.2
    have c2 := kernFor_v f b.fGlyph x.fGlyph
    have hka := kaN_in hf b.fGlyph x.fGlyph
    rw [Option.map_some, plG] at h5
    have hbi : bsI (some (j, b)) = (j : Int) := rfl
    rw [hbi]
    have hmo := fun d h => moV_in (d := d) (gs := s.fGlyphs) (f := f) (m := x.fGlyph) (b := b.fGlyph) h
    generalize moV s.fGlyphs f x.fGlyph b.fGlyph = R at *
    (conv => whnf)
    repeat' (first | ((fail_if_success (with_reducible apply RegD.id)); (first | (refine stg_ ?_) | (refine br_ (fun hbr => ?_) (fun hbr => ?_)))))
    all_goals first | (exfalso; omega) | skip
    refine RegD.cutT [(3, .pB 1 [] 0), (4, .pB 2 [] 0), (7, .own 3 0 out.length), (8, .d (.int .i64 pen)), (9, .d (.int .i64 (j : Nat))), (11, .pB 4 [] 0), (12, .pB 5 [] 0), (13, .pB 6 [] 0), (14, .d (.bool R.isSome)), (15, .d (.lst (xs.map TItem.D))), (16, .d (.int .i64 (xs.map TItem.D).length)), (17, .d (.int .i64 (k : Nat)))]
      [.gone, .box (.d s.D), .box (.d f.D), .arr 6 (out.map TSlot.D) true, .box (.d x.D), .box (.st [.d (.int .i64 x.fGlyph), .d (.int .i64 0), .d (.int .i64 0), .d (.int .i64 0), .d (.int .i64 x.fFrom), .d (.int .i64 x.fLen)]), .box (.d (anPt R).D)] trPa (by kernel_rfl) ?_ ?_
    · (conv => whnf)
      repeat' (first | (refine stg_ ?_) | (refine cla_ (c1) ?_) | (refine And.intro ?_ ?_ <;> (conv => whnf)))
      all_goals (refine Weak.cov ?_ ?_ ?_; (focus (repeat' (first | exact trivial | with_reducible rfl | (refine ⟨?_, ?_⟩) | rfl))); (focus (repeat' (first | exact trivial | with_reducible rfl | (refine ⟨?_, ?_⟩) | rfl))); (focus rfl))
    cases R with
    | some d =>
      have hd := hmo d rfl
      have hd2 : ptIn 524288 (anPt (some d)) := hd
      unfold ptIn at hd hd2
      dsimp only at h5
      (conv => whnf)
      repeat' (first | ((fail_if_success (with_reducible apply RegD.id)); (first | (refine stg_ ?_) | (refine br_ (fun hbr => ?_) (fun hbr => ?_)))))
      refine RegD.cutT [(3, .pB 1 [] 0), (4, .pB 2 [] 0), (7, .own 3 0 out.length), (8, .d (.int .i64 pen)), (9, .d (.int .i64 (j : Nat))), (12, .pB 5 [] 0), (15, .d (.lst (xs.map TItem.D))), (16, .d (.int .i64 (xs.map TItem.D).length)), (17, .d (.int .i64 (k : Nat)))]
        [.gone, .box (.d s.D), .box (.d f.D), .arr 6 (out.map TSlot.D) true, .gone, .box (.st [.d (.int .i64 x.fGlyph), .d (.int .i64 (b.fX + d.fX)), .d (.int .i64 (b.fY + d.fY)), .d (.int .i64 0), .d (.int .i64 x.fFrom), .d (.int .i64 x.fLen)])] trPb (by kernel_rfl) ?_ ?_
      · (conv => whnf)
        repeat' (first | (refine stg_ ?_) | (refine And.intro ?_ ?_ <;> (conv => whnf)))
        all_goals (refine Weak.cov ?_ ?_ ?_; (focus (repeat' (first | exact trivial | with_reducible rfl | (refine ⟨?_, ?_⟩) | rfl))); (focus (repeat' (first | exact trivial | with_reducible rfl | (refine ⟨?_, ?_⟩) | rfl))); (focus rfl))
      · (conv => whnf)
        (repeat' (first | (refine stg_ ?_) | fail | (refine br_ (fun hbr => ?_) (fun hbr => ?_))))
        refine NextW.go (k + 1, out ++ [⟨x.fGlyph, b.fX + d.fX, b.fY + d.fY, 0, x.fFrom, x.fLen⟩], some (j, b), pen) (Weak.cov ⟨rfl, rfl, by (show _ = V.own 3 0 (out ++ [_]).length; rw [hO1]; rfl), rfl, rfl, rfl, rfl, rfl, trivial⟩ ⟨trivial, rfl, rfl, by (show Blk.arr 6 ((out.map TSlot.D).take out.length ++ _) true = Blk.arr 6 ((out ++ [_]).map TSlot.D) true; rw [hT, List.map_append]; rfl), trivial⟩ rfl) ⟨⟨by dsimp only; omega, by rw [hO1]; dsimp only; omega⟩, h3.snoc _ (by omega), by dsimp only; omega, by rw [h5]; simp⟩ (by dsimp only; omega)
    | none =>
      rw [hadv] at h5
      rw [hadv] at hab
      dsimp only at h5
      (conv => whnf)
      repeat' (first | ((fail_if_success (with_reducible apply RegD.id)); (first | (refine stg_ ?_) | (refine br_ (fun hbr => ?_) (fun hbr => ?_)))))
      refine RegD.auto (by kernel_rfl) ?_
      (conv => whnf)
      repeat' (first | ((fail_if_success (with_reducible apply RegD.id)); (first | (refine stg_ ?_) | (refine cla_ (c2) ?_) | (refine br_ (fun hbr => ?_) (fun hbr => ?_)))))
      refine RegD.cutT [(3, .pB 1 [] 0), (4, .pB 2 [] 0), (7, .own 3 0 out.length), (8, .d (.int .i64 (pen + kaN f b.fGlyph x.fGlyph))), (9, .d (.int .i64 (j))), (12, .pB 5 [] 0), (15, .d (.lst (xs.map TItem.D))), (16, .d (.int .i64 (xs.map TItem.D).length)), (17, .d (.int .i64 (k : Nat)))]
        [.gone, .box (.d s.D), .box (.d f.D), .arr 6 (out.map TSlot.D) true, .gone, .box (.st [.d (.int .i64 x.fGlyph), .d (.int .i64 (pen + kaN f b.fGlyph x.fGlyph)), .d (.int .i64 0), .d (.int .i64 g.fAdvance), .d (.int .i64 x.fFrom), .d (.int .i64 x.fLen)])] trPc (by kernel_rfl) ?_ ?_
      · (conv => whnf)
        repeat' (first | (refine stg_ ?_) | (refine IxW.at hxr.1 hg' ?_; (conv => whnf)) | (refine And.intro ?_ ?_ <;> (conv => whnf)))
        all_goals (refine Weak.cov ?_ ?_ ?_; (focus (repeat' (first | exact trivial | with_reducible rfl | (refine ⟨?_, ?_⟩) | rfl))); (focus (repeat' (first | exact trivial | with_reducible rfl | (refine ⟨?_, ?_⟩) | rfl))); (focus rfl))
      · (conv => whnf)
        (repeat' (first | (refine stg_ ?_) | fail | (refine br_ (fun hbr => ?_) (fun hbr => ?_))))
        refine NextW.go (k + 1, out ++ [⟨x.fGlyph, (pen + kaN f b.fGlyph x.fGlyph), 0, g.fAdvance, x.fFrom, x.fLen⟩], some (out.length, ⟨x.fGlyph, (pen + kaN f b.fGlyph x.fGlyph), 0, g.fAdvance, x.fFrom, x.fLen⟩), (pen + kaN f b.fGlyph x.fGlyph) + g.fAdvance) (Weak.cov ⟨rfl, rfl, by (show _ = V.own 3 0 (out ++ [_]).length; rw [hO1]; rfl), rfl, rfl, rfl, rfl, rfl, trivial⟩ ⟨trivial, rfl, rfl, by (show Blk.arr 6 ((out.map TSlot.D).take out.length ++ _) true = Blk.arr 6 ((out ++ [_]).map TSlot.D) true; rw [hT, List.map_append]; rfl), trivial⟩ rfl) ⟨⟨by dsimp only; omega, by rw [hO1]; dsimp only; omega⟩, BsOK.new hxr (by dsimp only; omega) rfl, by dsimp only; omega, by rw [h5]; simp⟩ (by dsimp only; omega)
def trPs : OT := .q 0 (.q 1 (.q 2 (.q 3 (.q 4 (.q 5 (.q 6 (.q 7 (.q 8 (.q 9 (.q 10 (.alt 11 (.alt 12 (.alt 13 .done .nil) .nil) (.alt 12 (.alt 11 (.alt 13 .done .nil) .nil) .nil))))))))))))
set_option maxHeartbeats 8000000 in
theorem l27Place_v (s : TGlyphSet) (K : GsK s) (f : TFeatures) (hf : ftB f = true) (xs : List TItem) (hl : xs.length ≤ 60) (hx : itIn s.fGlyphs xs) :
    PC Tryz.prog 78 [.pX s.D, .pX f.D, .d (.lst (xs.map TItem.D))] (.own 1 0 xs.length) [.arr 6 ((plL s.fGlyphs f xs).map TSlot.D) true] := by
  refine pc_intro ttOk (by kernel_rfl) Tryz.func78 rfl (by kernel_rfl) (by kernel_rfl) (by kernel_rfl) (fun hw => ?_)
  have hL : (xs.map TItem.D).length = xs.length := List.length_map _
  have hLg : (s.fGlyphs.map TGlyph.D).length = s.fGlyphs.length := List.length_map _
  have h40 := K.len
  have hPl := plL_len s.fGlyphs f xs
  have hP0 : plL s.fGlyphs f xs = plG s.fGlyphs f xs none 0 := rfl
  generalize plL s.fGlyphs f xs = PL at *
  (conv => whnf)
  (repeat (refine stg_ ?_))
  refine LoopW.go (α := Nat × List TSlot × Option (Nat × TSlot) × Int) (fun p => [(0, .pX s.D), (1, .pX f.D), (2, .d (.lst (xs.map TItem.D))), (7, .own 1 0 p.2.1.length), (8, .d (.int .i64 p.2.2.2)), (9, .d (.int .i64 (bsI p.2.2.1))), (10, .d (.int .i64 (p.1 : Nat)))])
    (fun p => [.gone, .arr 6 (p.2.1.map TSlot.D) true])
    (fun p => (p.1 ≤ xs.length ∧ p.2.1.length = p.1) ∧ BsOK s.fGlyphs p.2.1 p.2.2.1 (p.1 * 524288) ∧ (-((p.1 : Nat) * 524288 : Int) ≤ p.2.2.2 ∧ p.2.2.2 ≤ (p.1 : Nat) * 524288) ∧ PL = p.2.1 ++ plG s.fGlyphs f (xs.drop p.1) (p.2.2.1.map Prod.snd) p.2.2.2)
    (fun p => xs.length - p.1) (0, [], none, 0) covT_ ⟨⟨by dsimp only; omega, rfl⟩, BsOK.none _ _ _, by dsimp only; omega, hP0⟩ ?_
  clear hP0
  rintro ⟨k, out, bs, pen⟩ ⟨⟨h1, h2⟩, h3, h4, h5⟩
  dsimp only at h1 h2 h3 h4 h5 ⊢
  have hO : (out.map TSlot.D).length = out.length := List.length_map _
  have hO1 : ∀ y : TSlot, (out ++ [y]).length = out.length + 1 := fun y => by simp
  have hT : (out.map TSlot.D).take out.length = out.map TSlot.D := List.take_of_length_le (by omega)
  rcases Nat.lt_or_ge k xs.length with hlt | hge
  rotate_left
  · obtain rfl : k = xs.length := by omega
    rw [List.drop_length, plG, List.append_nil] at h5
    subst h5
    (conv => whnf)
    (repeat' (first | (refine stg_ ?_) | fail | (refine br_ (fun hbr => ?_) (fun hbr => ?_))))
    all_goals first | (exfalso; omega) | skip
    rw [← h2]
    (refine ⟨⟨[some 1], ⟨by decide, rfl, trivial, trivial⟩, by decide, rfl, ?_⟩⟩; (conv => whnf); exact ⟨by decide, rfl⟩)
  obtain ⟨x, hkx⟩ := at_lt' (xs := xs) (k := k) hlt
  have hxr := hx x (List.mem_of_getElem? hkx)
  obtain ⟨g, hg⟩ := at_lt' (xs := s.fGlyphs) (k := x.fGlyph.toNat) hxr.2
  have hg' : (s.fGlyphs.map TGlyph.D)[x.fGlyph.toNat]? = some g.D := by rw [List.getElem?_map, hg]; rfl
  have hadv := adv_at hg
  have hab := adv_in K.gl x.fGlyph
  rw [drop_at hkx] at h5
  (conv => whnf)
  repeat' (first | ((fail_if_success (with_reducible apply RegD.id)); (first | (refine stg_ ?_) | (refine br_ (fun hbr => ?_) (fun hbr => ?_)))))
  all_goals first | (exfalso; omega) | skip
  refine RegD.cutT [(0, .pX s.D), (1, .pX f.D), (2, .d (.lst (xs.map TItem.D))), (7, .own 1 0 out.length), (8, .d (.int .i64 pen)), (9, .d (.int .i64 (bsI bs))), (10, .d (.int .i64 (k : Nat))), (11, .d (.int .i64 x.fGlyph)), (12, .pB 2 [] 0)]
    [.gone, .arr 6 (out.map TSlot.D) true, .box (.st [.d (.int .i64 x.fGlyph), .d (.int .i64 0), .d (.int .i64 0), .d (.int .i64 0), .d (.int .i64 x.fFrom), .d (.int .i64 x.fLen)])] trPs (by kernel_rfl) ?_ ?_
  · (conv => whnf)
    repeat' (first | (refine stg_ ?_) | (refine And.intro ?_ ?_ <;> (conv => whnf)))
    all_goals (refine Weak.cov ?_ ?_ ?_; (focus (repeat' (first | exact trivial | with_reducible rfl | (refine ⟨?_, ?_⟩) | rfl))); (focus (repeat' (first | exact trivial | with_reducible rfl | (refine ⟨?_, ?_⟩) | rfl))); (focus rfl))
  cases bs with
  | none =>
    have hbn : bsI none = -1 := rfl
    rw [hbn]
    rw [Option.map_none, plG, hadv] at h5
    rw [hadv] at hab
    (conv => whnf)
    (repeat' (first | (refine stg_ ?_) | (refine IxW.at hxr.1 hg' ?_; (conv => whnf)) | (refine br_ (fun hbr => ?_) (fun hbr => ?_))))
    all_goals first | (exfalso; omega) | (exfalso; simp_all [bsI]; done) | skip
    refine NextW.go (k + 1, out ++ [⟨x.fGlyph, pen, 0, g.fAdvance, x.fFrom, x.fLen⟩], some (out.length, ⟨x.fGlyph, pen, 0, g.fAdvance, x.fFrom, x.fLen⟩), pen + g.fAdvance) (Weak.cov ⟨rfl, rfl, rfl, by (show _ = V.own 1 0 (out ++ [_]).length; rw [hO1]; rfl), rfl, by (show V.d (D.int .i64 (k : Nat)) = V.d (D.int .i64 (out.length : Nat)); rw [h2]), rfl, trivial⟩ ⟨trivial, by (show Blk.arr 6 ((out.map TSlot.D).take out.length ++ _) true = Blk.arr 6 ((out ++ [_]).map TSlot.D) true; rw [hT, List.map_append]; rfl), trivial⟩ rfl) ⟨⟨by dsimp only; omega, by rw [hO1]; dsimp only; omega⟩, BsOK.new hxr (by dsimp only; omega) rfl, by dsimp only; omega, by rw [h5]; simp⟩ (by dsimp only; omega)
  | some jb =>
    obtain ⟨j, b⟩ := jb
    obtain ⟨b1, b2, b3, b4⟩ := h3.at' j b rfl
    have hjl := (List.getElem?_eq_some_iff.1 b1).1
    have hb' : (out.map TSlot.D)[j]? = some b.D := by rw [List.getElem?_map, b1]; rfl
    have c1 := l27Offset_v s K f hf x.fGlyph b.fGlyph hxr.1 hxr.2 b2.1 b2.2
    have c2 := l27Kern_v f b.fGlyph x.fGlyph
    have hka := kaN_in hf b.fGlyph x.fGlyph
    rw [Option.map_some, plG] at h5
    have hbi : bsI (some (j, b)) = (j : Int) := rfl
    rw [hbi]
    have hmo := fun d h => moV_in (d := d) (gs := s.fGlyphs) (f := f) (m := x.fGlyph) (b := b.fGlyph) h
    generalize moV s.fGlyphs f x.fGlyph b.fGlyph = R at *
    cases R with
    | some d =>
      have hd := hmo d rfl
      have hd2 : ptIn 524288 (anPt (some d)) := hd
      unfold ptIn at hd hd2
      dsimp only at h5
      (conv => whnf)
      (repeat' (first | (refine stg_ ?_) | (refine cla_ (c1) ?_) | (refine br_ (fun hbr => ?_) (fun hbr => ?_))))
      all_goals first | (exfalso; omega) | (exfalso; simp_all; done) | skip
      refine NextW.go (k + 1, out ++ [⟨x.fGlyph, b.fX + d.fX, b.fY + d.fY, 0, x.fFrom, x.fLen⟩], some (j, b), pen) (Weak.cov ⟨rfl, rfl, rfl, by (show _ = V.own 1 0 (out ++ [_]).length; rw [hO1]; rfl), rfl, rfl, rfl, trivial⟩ ⟨trivial, by (show Blk.arr 6 ((out.map TSlot.D).take out.length ++ _) true = Blk.arr 6 ((out ++ [_]).map TSlot.D) true; rw [hT, List.map_append]; rfl), trivial⟩ rfl) ⟨⟨by dsimp only; omega, by rw [hO1]; dsimp only; omega⟩, h3.snoc _ (by omega), by dsimp only; omega, by rw [h5]; simp⟩ (by dsimp only; omega)
    | none =>
      rw [hadv] at h5
      rw [hadv] at hab
      dsimp only at h5
      (conv => whnf)
      (repeat' (first | (refine stg_ ?_) | (refine cla_ (c1) ?_) | (refine cla_ (c2) ?_) | (refine IxW.at hxr.1 hg' ?_; (conv => whnf)) | (refine br_ (fun hbr => ?_) (fun hbr => ?_))))
      all_goals first | (exfalso; omega) | (exfalso; simp_all; done) | skip
      refine NextW.go (k + 1, out ++ [⟨x.fGlyph, pen + kaN f b.fGlyph x.fGlyph, 0, g.fAdvance, x.fFrom, x.fLen⟩], some (out.length, ⟨x.fGlyph, pen + kaN f b.fGlyph x.fGlyph, 0, g.fAdvance, x.fFrom, x.fLen⟩), pen + kaN f b.fGlyph x.fGlyph + g.fAdvance) (Weak.cov ⟨rfl, rfl, rfl, by (show _ = V.own 1 0 (out ++ [_]).length; rw [hO1]; rfl), rfl, by (show V.d (D.int .i64 (k : Nat)) = V.d (D.int .i64 (out.length : Nat)); rw [h2]), rfl, trivial⟩ ⟨trivial, by (show Blk.arr 6 ((out.map TSlot.D).take out.length ++ _) true = Blk.arr 6 ((out ++ [_]).map TSlot.D) true; rw [hT, List.map_append]; rfl), trivial⟩ rfl) ⟨⟨by dsimp only; omega, by rw [hO1]; dsimp only; omega⟩, BsOK.new hxr (by dsimp only; omega) rfl, by dsimp only; omega, by rw [h5]; simp⟩ (by dsimp only; omega)
def cdEq (c : Int) (g : TGlyph) : Bool := g.fCode == c
def rtL (gs : List TGlyph) : Nat → List UInt8 → Option (List TItem)
  | _, [] => some []
  | k, c :: cs => if 0 ≤ fdx (cdEq c.toNat) gs 0 then (match rtL gs (k + 1) cs with
    | some xs => some (⟨fdx (cdEq c.toNat) gs 0, k, 1⟩ :: xs)
    | none => none) else none
set_option maxHeartbeats 1000000 in
theorem ixGlyphp_v (xs : List TGlyph) (f : Nat) (y0 : D) (p : TGlyph → Bool) (hf : ∀ x : TGlyph, PC Tryz.prog f [.d x.D, .pX y0] (.d (.bool (p x))) []) :
    PC Tryz.prog 187 [.d (.lst (xs.map TGlyph.D)), .fn (.func f) [.pX y0]] (.d (.int .i64 (fdx p xs 0))) [] := by
  refine pc_intro ttOk (by kernel_rfl) Tryz.func187 rfl (by kernel_rfl) (by kernel_rfl) (by kernel_rfl) (fun hw => ?_)
  have hL : (xs.map TGlyph.D).length = xs.length := List.length_map _
  have hm : (xs.map TGlyph.D).length ≤ 9223372036854775807 := hw.1.1
  (conv => whnf)
  refine LoopW.go (α := Nat) (fun k => [(0, .d (.lst (xs.map TGlyph.D))), (1, .fn (.func f) [.pX y0]), (7, .d (.int .i64 (xs.map TGlyph.D).length)), (8, .d (.int .i64 k))]) (fun k => [.gone]) (fun k => k ≤ xs.length ∧ fdx p xs 0 = fdx p (xs.drop k) k) (fun k => xs.length - k) 0 covT_ ?_ (fun k hk => ?_)
  · exact ⟨by omega, rfl⟩
  obtain ⟨hk1, hk2⟩ := hk
  (conv => whnf)
  (refine br_ (fun h2 => ?_) (fun h2 => ?_) <;> (repeat (refine stg_ ?_)))
  · obtain ⟨x, hx⟩ := at_lt' (xs := xs) (k := k) (by omega)
    rw [fdx_at hx] at hk2
    (repeat (refine stg_ ?_))
    (refine cla_ (hf x) ?_)
    (refine br_ (fun h3 => ?_) (fun h3 => ?_) <;> (repeat (refine stg_ ?_)))
    · (refine RetOK.d rfl rfl ?_; conv => whnf)
      rw [hk2, if_pos h3]
    · (repeat (refine stg_ ?_))
      exact NextW.go (k + 1) covT_ ⟨by omega, by rw [hk2, h3]; rfl⟩ (by omega)
  · (refine RetOK.d rfl rfl ?_; conv => whnf)
    rw [hk2, fdx_end (by omega)]
theorem glyphOfChar1_v (x : TGlyph) (c : Int) : PC Tryz.prog 188 [.d x.D, .pX (.int .i64 c)] (.d (.bool (cdEq c x))) [] := by
  refine pc_intro ttOk (by kernel_rfl) Tryz.func188 rfl (by kernel_rfl) (by kernel_rfl) (by kernel_rfl) (fun hw => ?_)
  (conv => whnf)
  (refine RetOK.d rfl rfl ?_; conv => whnf)
  rfl
theorem glyphOfChar_v (s : TGlyphSet) (c : Int) (h0 : 0 ≤ c) : PC Tryz.prog 141 [.d s.D, .d (.int .i64 c)] (.d (.int .i64 (fdx (cdEq c) s.fGlyphs 0))) [] := by
  refine pc_intro ttOk (by kernel_rfl) Tryz.func141 rfl (by kernel_rfl) (by kernel_rfl) (by kernel_rfl) (fun hw => ?_)
  (conv => whnf)
  (repeat' (first | (refine stg_ ?_) | (refine cla_ (ixGlyphp_v s.fGlyphs _ (.int .i64 c) (cdEq c) (fun x => glyphOfChar1_v x c)) ?_) | (refine br_ (fun hbr => ?_) (fun hbr => ?_))))
  all_goals first | (exfalso; omega) | (refine RetOK.d rfl rfl ?_; conv => whnf)
theorem l17OfChar_v (s : TGlyphSet) (c : Int) (h0 : 0 ≤ c) : PC Tryz.prog 138 [.pX s.D, .d (.int .i64 c)] (.d (.int .i64 (fdx (cdEq c) s.fGlyphs 0))) [] := by
  refine pc_intro ttOk (by kernel_rfl) Tryz.func138 rfl (by kernel_rfl) (by kernel_rfl) (by kernel_rfl) (fun hw => ?_)
  have hL : (s.fGlyphs.map TGlyph.D).length = s.fGlyphs.length := List.length_map _
  have hm : (s.fGlyphs.map TGlyph.D).length ≤ 9223372036854775807 := hw.1.2.1.1
  (conv => whnf)
  refine LoopW.go (α := Nat) (fun k => [(0, .pX s.D), (1, .d (.int .i64 c)), (5, .d (.int .i64 k))]) (fun k => [.gone]) (fun k => k ≤ s.fGlyphs.length ∧ fdx (cdEq c) s.fGlyphs 0 = fdx (cdEq c) (s.fGlyphs.drop k) k) (fun k => s.fGlyphs.length - k) 0 covT_ ?_ (fun k hk => ?_)
  · exact ⟨by omega, rfl⟩
  obtain ⟨hk1, hk2⟩ := hk
  (conv => whnf)
  (repeat (refine stg_ ?_))
  (refine br_ (fun h2 => ?_) (fun h2 => ?_) <;> (repeat (refine stg_ ?_)))
  · obtain ⟨x, hx⟩ := at_lt' (xs := s.fGlyphs) (k := k) (by omega)
    rw [fdx_at hx] at hk2
    have hx' : (s.fGlyphs.map TGlyph.D)[k]? = some x.D := by rw [List.getElem?_map, hx]; rfl
    (repeat' (first | (refine stg_ ?_) | fail | (refine br_ (fun hbr => ?_) (fun hbr => ?_))))
    all_goals first | (exfalso; omega) | ((refine RetOK.d rfl rfl ?_; conv => whnf); rw [hk2, if_pos (by simp_all [cdEq])]; done) | (exact NextW.go (k + 1) covT_ ⟨by omega, by rw [hk2, if_neg (by simp_all [cdEq])]⟩ (by omega))
  · (refine RetOK.d rfl rfl ?_; conv => whnf)
    rw [hk2, fdx_end (by omega)]
theorem rtL_at {gs : List TGlyph} {s : ByteArray} {k : Nat} (hk : k < s.size) : rtL gs k (s.data.toList.drop k) = if 0 ≤ fdx (cdEq (s[k]'hk).toNat) gs 0 then (match rtL gs (k + 1) (s.data.toList.drop (k + 1)) with
    | some xs => some (⟨fdx (cdEq (s[k]'hk).toNat) gs 0, k, 1⟩ :: xs)
    | none => none) else none := by
  rw [dropN (k := k) hk, rtL]; first | done | rfl
theorem rtL_end {gs : List TGlyph} {s : ByteArray} {k : Nat} (hk : s.size ≤ k) : rtL gs k (s.data.toList.drop k) = some [] := by
  rw [List.drop_eq_nil_of_le hk]; rfl
theorem rtL_len {gs : List TGlyph} : ∀ (cs : List UInt8) (k : Nat) (xs : List TItem), rtL gs k cs = some xs → xs.length = cs.length
  | [], k, xs, h => by cases h; rfl
  | c :: cs, k, xs, h => by
    rw [rtL] at h
    split at h
    · cases hq : rtL gs (k + 1) cs with
      | none => rw [hq] at h; cases h
      | some ys =>
        rw [hq] at h
        cases h
        simp [rtL_len cs (k + 1) ys hq]
    · cases h
def rtV (s : TGlyphSet) (t : ByteArray) : Option (List TItem) × Int :=
  if gsB s = false then (none, 1) else if 60 < t.size then (none, 5) else match rtL s.fGlyphs 0 t.data.toList with
    | some xs => (some xs, 0)
    | none => (none, 3)
def ItRes (o : Option (List TItem) × Int) (v : V) (bs : List Blk) : Prop :=
  match o with
  | (none, c) => v = .tup [.nils, .d (.int .i64 c)] ∧ bs = []
  | (some xs, c) => v = .tup [.own 1 0 xs.length, .d (.int .i64 c)] ∧ bs = [.arr 3 (xs.map TItem.D) true]
theorem rtV_cases (s : TGlyphSet) (t : ByteArray) : (∃ c, rtV s t = (none, c)) ∨ ∃ xs c, xs.length ≤ 60 ∧ rtV s t = (some xs, c) := by
  unfold rtV
  split
  · exact .inl ⟨_, rfl⟩
  · split
    · exact .inl ⟨_, rfl⟩
    · cases h : rtL s.fGlyphs 0 t.data.toList with
      | none => exact .inl ⟨_, rfl⟩
      | some xs =>
        have h1 := rtL_len _ _ _ h
        have h2 : t.data.toList.length = t.size := rfl
        exact .inr ⟨xs, 0, by omega, rfl⟩
set_option maxHeartbeats 4000000 in
theorem RunOfText_v (s : TGlyphSet) (t : ByteArray) {v : V} {bs : List Blk} (hres : ItRes (rtV s t) v bs) : PC Tryz.prog 88 [.d s.D, .d (.str t)] v bs := by
  refine pc_intro ttOk (by kernel_rfl) Tryz.func88 rfl (by kernel_rfl) (by kernel_rfl) (by kernel_rfl) (fun hw => ?_)
  have hs : t.size ≤ 9223372036854775807 := hw.2.1
  have c0 := ValidGlyphSet_v s
  unfold rtV at hres
  cases hg : gsB s with
  | false =>
    rw [hg, if_pos rfl] at hres
    obtain ⟨rfl, rfl⟩ := hres
    rw [hg] at c0
    (conv => whnf)
    (repeat' (first | (refine stg_ ?_) | (refine cla_ (c0) ?_) | (refine br_ (fun hbr => ?_) (fun hbr => ?_))))
    all_goals first | (exfalso; simp_all; done) | (refine ⟨⟨[], trivial, by decide, ⟨_, rfl, rfl, ⟨_, _, rfl, rfl, ⟨_, _, rfl, ⟨rfl, ?_⟩, rfl⟩⟩⟩⟩⟩; (conv => whnf))
    all_goals rfl
  | true =>
    rw [hg, if_neg (by simp)] at hres
    rw [hg] at c0
    by_cases h60 : 60 < t.size
    · rw [if_pos h60] at hres
      obtain ⟨rfl, rfl⟩ := hres
      (conv => whnf)
      (repeat' (first | (refine stg_ ?_) | (refine cla_ (c0) ?_) | (refine br_ (fun hbr => ?_) (fun hbr => ?_))))
      all_goals first | (exfalso; simp_all; done) | (exfalso; omega) | (refine ⟨⟨[], trivial, by decide, ⟨_, rfl, rfl, ⟨_, _, rfl, rfl, ⟨_, _, rfl, ⟨rfl, ?_⟩, rfl⟩⟩⟩⟩⟩; (conv => whnf))
      all_goals rfl
    rw [if_neg h60] at hres
    have hi : ItRes (match rtL s.fGlyphs 0 (t.data.toList.drop 0) with | some xs => (some xs, 0) | none => (none, 3)) v bs := by rw [List.drop_zero]; exact hres
    clear hres
    (conv => whnf)
    (repeat' (first | (refine stg_ ?_) | (refine cla_ (c0) ?_) | (refine br_ (fun hbr => ?_) (fun hbr => ?_))))
    all_goals first | (exfalso; simp_all; done) | (exfalso; omega) | skip
    clear c0
    refine LoopW.go (α := Nat × List TItem) (fun p => [(1, .d (.str t)), (2, .pB 1 [] 0), (6, .own 2 0 p.2.length), (7, .d (.int .i64 (p.1 : Nat)))]) (fun p => [.gone, .box (.d s.D), .arr 3 (p.2.map TItem.D) true]) (fun p => p.1 ≤ t.size ∧ p.2.length = p.1 ∧ rtL s.fGlyphs 0 (t.data.toList.drop 0) = (rtL s.fGlyphs p.1 (t.data.toList.drop p.1)).map (p.2 ++ ·)) (fun p => t.size - p.1) (0, []) (Weak.trans (Weak.adopt (k := 6) rfl 3 true) (Weak.cov ⟨rfl, rfl, rfl, rfl, trivial⟩ ⟨trivial, rfl, rfl, trivial⟩ rfl)) ⟨Nat.zero_le _, rfl, by simp⟩ ?_
    rintro ⟨k, xs⟩ ⟨i1, i2, i3⟩
    dsimp only at i1 i2 i3 ⊢
    have hX : (xs.map TItem.D).length = xs.length := List.length_map _
    rw [i3] at hi
    (conv => whnf)
    (refine br_ (fun h1 => ?_) (fun h1 => ?_) <;> (repeat (refine stg_ ?_)))
    · have hc := bget? (s := t) (k := k) (by omega)
      have hlt := (t[k]'(by omega)).toNat_lt
      rw [rtL_at (k := k) (by omega)] at i3 hi
      have c1 := glyphOfChar_v s ((t[k]'(by omega)).toNat : Int) (by omega)
      by_cases hf : 0 ≤ fdx (cdEq ((t[k]'(by omega)).toNat : Int)) s.fGlyphs 0
      · rw [if_pos hf] at i3 hi
        generalize hG : fdx (cdEq ((t[k]'(by omega)).toNat : Int)) s.fGlyphs 0 = G at *
        (repeat' (first | (refine stg_ ?_) | (refine cla_ (c1) ?_) | (refine br_ (fun hbr => ?_) (fun hbr => ?_))))
        all_goals first | (exfalso; omega) | skip
        refine NextW.go (k + 1, xs ++ [⟨G, k, 1⟩]) (Weak.cov ⟨rfl, rfl, by (show _ = V.own 2 0 (xs ++ [_]).length; rw [List.length_append]; rfl), rfl, trivial⟩ ⟨trivial, rfl, by (rw [List.take_of_length_le (by omega)]; show _ = Blk.arr 3 ((xs ++ [_]).map TItem.D) true; rw [List.map_append]; rfl), trivial⟩ rfl) ⟨by dsimp only; omega, by simp [i2], ?_⟩ (by dsimp only; omega)
        dsimp only
        rw [i3]
        cases rtL s.fGlyphs (k + 1) (t.data.toList.drop (k + 1)) with
        | none => rfl
        | some ys => simp
      · rw [if_neg hf] at hi
        obtain ⟨rfl, rfl⟩ := hi
        generalize hG : fdx (cdEq ((t[k]'(by omega)).toNat : Int)) s.fGlyphs 0 = G at *
        (repeat' (first | (refine stg_ ?_) | (refine cla_ (c1) ?_) | (refine br_ (fun hbr => ?_) (fun hbr => ?_))))
        all_goals first | (exfalso; omega) | (refine ⟨⟨[], trivial, by decide, ⟨_, rfl, rfl, ⟨_, _, rfl, rfl, ⟨_, _, rfl, ⟨rfl, ?_⟩, rfl⟩⟩⟩⟩⟩; (conv => whnf))
        all_goals rfl
    · rw [rtL_end (by omega)] at hi
      simp only [Option.map_some, List.append_nil] at hi
      obtain ⟨rfl, rfl⟩ := hi
      (repeat' (first | (refine stg_ ?_) | fail | (refine br_ (fun hbr => ?_) (fun hbr => ?_))))
      (refine ⟨⟨[some 2], ⟨by decide, ?_, trivial, trivial⟩, by decide, ⟨_, rfl, rfl, ⟨_, _, rfl, ⟨by decide, ?_⟩, ⟨_, _, rfl, ⟨rfl, ?_⟩, rfl⟩⟩⟩⟩⟩)
      all_goals rfl
set_option maxHeartbeats 4000000 in
theorem l26OfText_v (s : TGlyphSet) (t : ByteArray) (hg : gsB s = true) {v : V} {bs : List Blk} (hres : ItRes (rtV s t) v bs) : PC Tryz.prog 86 [.pX s.D, .d (.str t)] v bs := by
  refine pc_intro ttOk (by kernel_rfl) Tryz.func86 rfl (by kernel_rfl) (by kernel_rfl) (by kernel_rfl) (fun hw => ?_)
  have hs : t.size ≤ 9223372036854775807 := hw.2.1
  unfold rtV at hres
  rw [hg, if_neg (by simp)] at hres
  by_cases h60 : 60 < t.size
  · rw [if_pos h60] at hres
    obtain ⟨rfl, rfl⟩ := hres
    (conv => whnf)
    (repeat' (first | (refine stg_ ?_) | fail | (refine br_ (fun hbr => ?_) (fun hbr => ?_))))
    all_goals first | (exfalso; omega) | (refine ⟨⟨[], trivial, by decide, ⟨_, rfl, rfl, ⟨_, _, rfl, rfl, ⟨_, _, rfl, ⟨rfl, ?_⟩, rfl⟩⟩⟩⟩⟩; (conv => whnf))
    all_goals rfl
  rw [if_neg h60] at hres
  have hi : ItRes (match rtL s.fGlyphs 0 (t.data.toList.drop 0) with | some xs => (some xs, 0) | none => (none, 3)) v bs := by rw [List.drop_zero]; exact hres
  clear hres
  (conv => whnf)
  (repeat' (first | (refine stg_ ?_) | fail | (refine br_ (fun hbr => ?_) (fun hbr => ?_))))
  all_goals first | (exfalso; omega) | skip
  refine LoopW.go (α := Nat × List TItem) (fun p => [(0, .pX s.D), (1, .d (.str t)), (6, .own 1 0 p.2.length), (7, .d (.int .i64 (p.1 : Nat)))]) (fun p => [.gone, .arr 3 (p.2.map TItem.D) true]) (fun p => p.1 ≤ t.size ∧ p.2.length = p.1 ∧ rtL s.fGlyphs 0 (t.data.toList.drop 0) = (rtL s.fGlyphs p.1 (t.data.toList.drop p.1)).map (p.2 ++ ·)) (fun p => t.size - p.1) (0, []) covT_ ⟨Nat.zero_le _, rfl, by simp⟩ ?_
  rintro ⟨k, xs⟩ ⟨i1, i2, i3⟩
  dsimp only at i1 i2 i3 ⊢
  have hX : (xs.map TItem.D).length = xs.length := List.length_map _
  rw [i3] at hi
  (conv => whnf)
  (refine br_ (fun h1 => ?_) (fun h1 => ?_) <;> (repeat (refine stg_ ?_)))
  · have hc := bget? (s := t) (k := k) (by omega)
    have hlt := (t[k]'(by omega)).toNat_lt
    rw [rtL_at (k := k) (by omega)] at i3 hi
    have c1 := l17OfChar_v s ((t[k]'(by omega)).toNat : Int) (by omega)
    by_cases hf : 0 ≤ fdx (cdEq ((t[k]'(by omega)).toNat : Int)) s.fGlyphs 0
    · rw [if_pos hf] at i3 hi
      generalize hG : fdx (cdEq ((t[k]'(by omega)).toNat : Int)) s.fGlyphs 0 = G at *
      (repeat' (first | (refine stg_ ?_) | (refine cla_ (c1) ?_) | (refine br_ (fun hbr => ?_) (fun hbr => ?_))))
      all_goals first | (exfalso; omega) | skip
      refine NextW.go (k + 1, xs ++ [⟨G, k, 1⟩]) (Weak.cov ⟨rfl, rfl, by (show _ = V.own 1 0 (xs ++ [_]).length; rw [List.length_append]; rfl), rfl, trivial⟩ ⟨trivial, by (rw [List.take_of_length_le (by omega)]; show _ = Blk.arr 3 ((xs ++ [_]).map TItem.D) true; rw [List.map_append]; rfl), trivial⟩ rfl) ⟨by dsimp only; omega, by simp [i2], ?_⟩ (by dsimp only; omega)
      dsimp only
      rw [i3]
      cases rtL s.fGlyphs (k + 1) (t.data.toList.drop (k + 1)) with
      | none => rfl
      | some ys => simp
    · rw [if_neg hf] at hi
      obtain ⟨rfl, rfl⟩ := hi
      generalize hG : fdx (cdEq ((t[k]'(by omega)).toNat : Int)) s.fGlyphs 0 = G at *
      (repeat' (first | (refine stg_ ?_) | (refine cla_ (c1) ?_) | (refine br_ (fun hbr => ?_) (fun hbr => ?_))))
      all_goals first | (exfalso; omega) | (refine ⟨⟨[], trivial, by decide, ⟨_, rfl, rfl, ⟨_, _, rfl, rfl, ⟨_, _, rfl, ⟨rfl, ?_⟩, rfl⟩⟩⟩⟩⟩; (conv => whnf))
      all_goals rfl
  · rw [rtL_end (by omega)] at hi
    simp only [Option.map_some, List.append_nil] at hi
    obtain ⟨rfl, rfl⟩ := hi
    (repeat' (first | (refine stg_ ?_) | fail | (refine br_ (fun hbr => ?_) (fun hbr => ?_))))
    (refine ⟨⟨[some 1], ⟨by decide, ?_, trivial, trivial⟩, by decide, ⟨_, rfl, rfl, ⟨_, _, rfl, ⟨by decide, ?_⟩, ⟨_, _, rfl, ⟨rfl, ?_⟩, rfl⟩⟩⟩⟩⟩)
    all_goals rfl
end Go.Proofs.YtcachhipflibkaaGreat