/- The abstract machine: functions that turn a map of their caller's, their last argument. Leans on no program. -/
import Derived.Test.YtcachhipflibkaaGreatVMIn
set_option linter.unusedSimpArgs false
set_option linter.unusedVariables false
namespace Go.Proofs.YtcachhipflibkaaGreat
open Go.RowKit

/-- data that lies elsewhere -/
def V.isD : V → Bool
  | .d _ => true
  | _ => false
def V.isDs : List V → Bool
  | [] => true
  | v :: vs => v.isD && V.isDs vs
/-- a map of plain values -/
def mpF (es : List (D × D)) : Prop := ∀ p ∈ es, p.1.flat = true ∧ p.2.flat = true
def V.resT : V → Bool
  | .tup vs => plains vs
  | v => v.plain
theorem mpF_nil : mpF [] := fun _ h => by simp at h
theorem mpF_upd {q z : D} (hq : q.flat = true) (hz : z.flat = true) : ∀ {es : List (D × D)}, mpF es → mpF (updD es q z)
  | [], _, p, hp => by
    simp only [updD, List.mem_singleton] at hp
    subst hp
    exact ⟨hq, hz⟩
  | (k, v) :: es, h, p, hp => by
    simp only [updD] at hp
    cases hc : keyE q k with
    | true =>
      rw [hc] at hp
      rcases List.mem_cons.1 hp with rfl | hp
      · exact ⟨hq, hz⟩
      · exact h p (by simp [hp])
    | false =>
      rw [hc] at hp
      rcases List.mem_cons.1 hp with rfl | hp
      · exact h _ (by simp)
      · exact mpF_upd hq hz (es := es) (fun p hp => h p (by simp [hp])) p hp
theorem resT_rep {w w' : World} {M M' : MM} {h h' : List Blk} {v : V} {cv : Value} (hp : v.resT = true) (H : rep w M h v cv) : rep w' M' h' v cv := by
  cases v with
  | tup vs =>
    obtain ⟨cvs, e, H⟩ := H
    exact ⟨cvs, e, plains_rep vs cvs hp H⟩
  | d x => exact rep_of_rep1 (plain_rep (v := .d x) hp (rep1_of_rep rfl H))
  | _ => cases hp
theorem isD_rep {w : World} {M M' : MM} {h h' : List Blk} (hO : ∀ b, b ∉ M.O → b < w.heap.size → b ∉ M'.O) {v : V} {cv : Value} (hp : v.isD = true) (H : rep1 w M h v cv) : rep1 w M' h' v cv := by
  cases v with
  | d x =>
    have key : ∀ cs : List Value, repC w M h (.d x) cs → repC w M' h' (.d x) cs := fun cs hc => repD_mv (fun b h1 h2 => ⟨hO b h1 h2, rfl⟩) x cs hc
    unfold rep1 at H ⊢
    split at H
    · rename_i ha
      rw [if_pos ha]
      obtain ⟨cs, e, H⟩ := H
      exact ⟨cs, e, key cs H⟩
    · rename_i ha
      rw [if_neg ha]
      exact key _ H
  | _ => cases hp
theorem isDs_rep {w : World} {M M' : MM} {h h' : List Blk} (hO : ∀ b, b ∉ M.O → b < w.heap.size → b ∉ M'.O) : ∀ (vs : List V) (cs : List Value), V.isDs vs = true → repT w M h vs cs → repT w M' h' vs cs
  | [], cs, _, H => H
  | v :: vs, cs, hp, H => by
    simp only [V.isDs, Bool.and_eq_true] at hp
    obtain ⟨c, cs', e, h1, h2⟩ := H
    exact ⟨c, cs', e, isD_rep hO hp.1 h1, isDs_rep hO vs cs' hp.2 h2⟩
theorem repT_snoc {w : World} {M : MM} {h : List Blk} {u : V} : ∀ (vs : List V) (cs : List Value), repT w M h (vs ++ [u]) cs → ∃ cs' c, cs = cs' ++ [c] ∧ repT w M h vs cs' ∧ rep1 w M h u c
  | [], cs, H => by
    obtain ⟨c, cs', rfl, h1, h2⟩ := H
    cases h2
    exact ⟨[], c, rfl, rfl, h1⟩
  | v :: vs, cs, H => by
    obtain ⟨c, cs', rfl, h1, h2⟩ := H
    obtain ⟨cs2, c2, rfl, k1, k2⟩ := repT_snoc vs cs' h2
    exact ⟨c :: cs2, c2, rfl, ⟨c, cs2, rfl, h1, k1⟩, k2⟩
theorem repT_snoc' {w : World} {M : MM} {h : List Blk} {u : V} {c : Value} (hu : rep1 w M h u c) : ∀ (vs : List V) (cs : List Value), repT w M h vs cs → repT w M h (vs ++ [u]) (cs ++ [c])
  | [], cs, H => by
    cases H
    exact ⟨c, [], rfl, hu, rfl⟩
  | v :: vs, cs, H => by
    obtain ⟨c1, cs', rfl, h1, h2⟩ := H
    exact ⟨c1, cs' ++ [c], rfl, h1, repT_snoc' hu vs cs' h2⟩
theorem entR_any {w : World} {M M' : MM} {h h' : List Blk} : ∀ {es : List (D × D)} {l : List MapEntry}, mpF es → entR w M h es l → entR w M' h' es l
  | [], _, _, H => H
  | (k, v) :: es, l, hf, H => by
    obtain ⟨x, l', e, h1, h2, h3⟩ := H
    have hp := hf (k, v) (by simp)
    exact ⟨x, l', e, plain_rep (v := .d k) hp.1 h1, plain_rep (v := .d v) hp.2 h2, entR_any (fun p hp => hf p (by simp [hp])) h3⟩
theorem wfVs_left {u : V} : ∀ {vs : List V}, wfVs (vs ++ [u]) → wfVs vs
  | [], _ => trivial
  | _ :: _, H => ⟨H.1, wfVs_left H.2⟩

/-- f, at the values rest and a map es of its caller's own, answers v; the map is then one of those that Q names -/
structure PM (P : Program) (f : FuncId) (tg : Option IntKind) (es : List (D × D)) (rest : List V) (v : V) (Q : List (D × D) → Prop) : Prop where
  fn : ∃ fn, P.funcs[f]? = some fn ∧ (fn.name == "runtime.NumGoroutine") = false ∧ fn.body.isNone = false
  fl : mpF es
  flq : ∀ es', Q es' → mpF es'
  run : ∀ (w : World) (g : Nat) (ents : Array MapEntry) (ck : Nat) (args : List Value), w.heap[g]? = some (.map ents ck) → (∀ p ∈ es, keyK tg p.1 = true) → entR w [none] [.gone] es ents.toList → repT w [some (g, [])] [.gone] rest args →
    Calls P f (args ++ [Value.map (some g)]).toArray w fun en w' => ∃ cv es' ents' ck', en = .returned cv ∧ rep w' [none] [.gone] v cv ∧ Kept w w' [g] [g] ∧ Q es' ∧ w'.heap[g]? = some (.map ents' ck') ∧ (∀ p ∈ es', keyK tg p.1 = true) ∧ entR w' [none] [.gone] es' ents'.toList
/-- such a call, seen from the caller -/
theorem PM.call {P : Program} {f : FuncId} {tg : Option IntKind} {es : List (D × D)} {rest : List V} {v : V} {Q : List (D × D) → Prop} (pm : PM P f tg es rest v Q) {b : Nat} {e : Env} {h : List Blk} {K : V → Env → List Blk → Prop}
    (hb : h[b]? = some (.mp tg es)) (hb0 : Nat.ble 1 b = true) (hr : V.isDs rest = true) (hv : v.resT = true) (H : ∀ es', Q es' → K v e (h.set b (.mp tg es'))) : CallM P f (rest ++ [.pB b [] 1000000007]) e h K where
  fn := pm.fn
  run B X N M a w args R hargs := by
    obtain ⟨args1, cm, rfl, h1, h2⟩ := repT_snoc rest args hargs
    have hb1 : 1 ≤ b := Nat.le_of_ble_eq_true hb0
    obtain ⟨g, F, hM, rfl⟩ := rep_pB.1 (rep_of_rep1 h2)
    obtain ⟨rfl, hK, ents, ck, hg, hent⟩ := R.inv.blk b _ _ hb hM
    rw [show pbv g 1000000007 = .map (some g) from rfl]
    have hgO : g ∈ M.O := mem_O hM (by simp [mO])
    refine (pm.run w g ents ck args1 hg hK (entR_any pm.fl hent) (isDs_rep (fun b h1 _ => by
      rw [O_one]
      intro q
      have : b = g := by simpa [mO] using q
      subst this
      exact h1 hgO) rest args1 hr h1)).mono ?_
    rintro en w' ⟨cv, es', ents', ck', rfl, q1, q2, q3, q4, q5, q6⟩
    have hxB : Ext B w' := by
      have hlo := R.inv.lo b _ _ hb hM rfl
      refine Below.trans R.ext ⟨q2.os, q2.tape, q2.output, q2.size, fun k hk => q2.ch k (Nat.lt_of_lt_of_le hk R.base) (fun hm => ?_)⟩
      have hkg : k = g := by simpa using hm
      have := hlo g (by simp [mO])
      omega
    have hnof : nOf (h.set b (.mp tg es')) b = nOf h b := by
      unfold nOf
      rw [List.getElem?_set_self (List.getElem?_eq_some_iff.1 hb).1, hb]
    obtain ⟨M', R', _, _⟩ := R.reset (w' := w') hxB hM (by omega) hb (.inl rfl) [] [] (by simp) (by simp) (by simp) (by simp) (m' := some (g, [])) (by simp [mO])
      (fun x hx => .inl hx) (fun x hx => by
        have : x = g := by simpa [mO] using hx
        subst this
        exact lt_of_heap q4) q2.size (fun x hx hxm => q2.ch x hx (by simpa [mO] using hxm)) (k' := .mp tg es') rfl
      (fun _ g1 F1 e1 => by
        cases e1
        refine ⟨⟨[], rfl⟩, hnof, fun arr1 t1 hg1 => ?_⟩
        rw [hg] at hg1
        cases hg1)
      (fun M' h' _ => ⟨rfl, q5, ents', ck', q4, entR_any (pm.flq es' q3) q6⟩)
    exact ⟨v, cv, e, _, M', rfl, H es' q3, R', resT_rep hv q1⟩
theorem CallW.useM {P : Program} {f : FuncId} {tg : Option IntKind} {es : List (D × D)} {rest : List V} {v : V} {Q : List (D × D) → Prop} (pm : PM P f tg es rest v Q) {b : Nat} {e : Env} {h : List Blk} {K : V → Env → List Blk → Prop} {vs : List V} (hvs : vs = rest ++ [.pB b [] 1000000007])
    (hb : h[b]? = some (.mp tg es)) (hb0 : Nat.ble 1 b = true) (hr : V.isDs rest = true) (hv : v.resT = true) (H : ∀ es', Q es' → K v e (h.set b (.mp tg es'))) : CallW P false f vs e h K := by
  subst hvs
  exact ⟨.inr ⟨rfl, pm.call hb hb0 hr hv H⟩⟩

/-! ### from the code of such a function -/
/-- how such a function's code must end -/
def mQ (tt : TT) (rs : List ResultVar) (tg : Option IntKind) (v : V) (Q : List (D × D) → Prop) (G : Blk) : Post
  | .normal => fun e h => retV tt rs e h fun va => va = v ∧ ∃ es' r, h = .gone :: G :: .mp tg es' :: r ∧ Q es'
  | .ret => fun e h => retV tt rs e h fun va => va = v ∧ ∃ es' r, h = .gone :: G :: .mp tg es' :: r ∧ Q es'
  | .exit _ => fun _ _ => False
theorem pm_intro {P : Program} {tt : TT} (hT : TOk P tt) (hm : P.follows .mixedOrders = true) {f : FuncId} {fn : Func} {c : Code} (hf : P.funcs[f]? = some fn) (hb : fn.body = some c) (hname : (fn.name == "runtime.NumGoroutine") = false)
    (hN : codeB fn.ntmps c = true) {tg : Option IntKind} {es : List (D × D)} {rest : List V} (hA : Nat.ble (rest.length + 1) fn.ntmps = true) {v : V} {Q : List (D × D) → Prop} (hrd : V.isDs rest = true) (hv : v.resT = true) (hfl : mpF es) (hfq : ∀ es', Q es' → mpF es')
    (H : ∀ (k : Nat → Option Obj) (s g : Nat) (t : TypeId), wfVs rest → wpC P tt c (mQ tt fn.results.toList tg v Q (.gho k s g 0 t)) (argE 0 (rest ++ [.pB 2 [] 1000000007])) [.gone, .gho k s g 0 t, .mp tg es]) : PM P f tg es rest v Q where
  fn := ⟨fn, hf, hname, by rw [hb]; rfl⟩
  fl := hfl
  flq := hfq
  run := fun w g ents ck args0 hg hK hent hargs => by
    have t : TypeId := by
      have := fn.ntmps
      exact (0 : Nat)
    have hO : MM.O [none, none, some (g, [])] = [g] := by simp [MM.O, mO]
    have hO1 : MM.O [some (g, [])] = [g] := by simp [MM.O, mO]
    have hglt := lt_of_heap hg
    let fr : Nat → Option Obj := fun b => if b ∈ [g] then none else w.heap[b]?
    have hfr : ∀ b o, fr b = some o → b ∉ [g] ∧ w.heap[b]? = some o := fun b o hc => by
      simp only [fr] at hc
      split at hc
      · cases hc
      · rename_i hm'; exact ⟨hm', hc⟩
    have hlenT : ∀ {M : MM} {h : List Blk} (vs : List V) (cs : List Value), repT w M h vs cs → cs.length = vs.length := by
      intro M h vs
      induction vs with
      | nil => intro cs H; cases H; rfl
      | cons v vs ih => intro cs H; obtain ⟨c, cs', rfl, _, h2⟩ := H; simp [ih _ h2]
    have hA' := Nat.le_of_ble_eq_true hA
    have hargs1 : repT w [none, none, some (g, [])] [.gone, .gho fr w.heap.size g 0 t, .mp tg es] rest args0 := isDs_rep (fun b h1 _ => by rw [hO]; rw [hO1] at h1; exact h1) rest args0 hrd hargs
    have hargs2 : repT w [none, none, some (g, [])] [.gone, .gho fr w.heap.size g 0 t, .mp tg es] (rest ++ [.pB 2 [] 1000000007]) (args0 ++ [Value.map (some g)]) :=
      repT_snoc' (rep1_of_rep rfl (rep_pB.2 ⟨g, [], rfl, rfl⟩)) rest args0 hargs1
    have hl := hlenT _ _ hargs2
    generalize hargs0 : args0 ++ [Value.map (some g)] = args at *
    have R : Rep { w with heap := #[] } [] fn.ntmps [none, none, some (g, [])] (argE 0 (rest ++ [.pB 2 [] 1000000007])) [.gone, .gho fr w.heap.size g 0 t, .mp tg es]
        { tmps := args.toArray ++ Array.replicate (fn.ntmps - args.toArray.size) Go.undef, defers := [] } w := {
      ext := ⟨rfl, rfl, rfl, Nat.zero_le _, fun k hk => by simp at hk⟩
      inv := ⟨rfl, fun b k m hk hm => by
          match b, hk, hm with
          | 0, hk, hm => simp at hk; subst hk; trivial
          | 1, hk, hm =>
            simp at hk hm
            subst hk
            exact ⟨fun b o hc => by rw [hO]; exact hfr b o hc, Nat.le_refl _, [], rfl, .inl rfl⟩
          | 2, hk, hm =>
            simp at hk hm
            subst hk
            subst hm
            exact ⟨rfl, hK, ents, ck, hg, entR_any hfl hent⟩
          | b + 3, hk, hm => simp at hk, by rw [hO]; simp, fun _ _ _ _ _ _ g' _ => Nat.zero_le _, by
          rw [hO]
          intro x hx
          have : x = g := by simpa using hx
          subst this
          exact hglt⟩
      env := fun k => by
        rw [argE_get, if_pos (Nat.zero_le _), Nat.sub_zero]
        split
        · rename_i v hv
          obtain ⟨cc, q1, q2⟩ := repT_get _ _ k v hargs2 hv
          have hk : k < args.length := (List.getElem?_eq_some_iff.1 q1).1
          have : (args.toArray ++ Array.replicate (fn.ntmps - args.toArray.size) Go.undef).getD k Go.undef = cc := by
            rw [Array.getD_eq_getD_getElem?, Array.getElem?_append_left (by simpa using hk)]
            simp only [List.getElem?_toArray, q1, Option.getD_some]
          dsimp only
          rw [this]
          exact rep_of_rep1 q2
        · trivial
      sz := by simp [hl]; omega
      df := rfl
      fr := rfl
      fh := rfl }
    have hwf : wfVs rest := wfVs_left (repT_wf _ _ hargs2)
    refine calls_of_wp hf hb (wp_mono (code_sound hT hm c _ _ _ _ _ _ hN (H fr w.heap.size g t hwf) R) fun x a' w' hx => ?_)
    have fin : ∀ (e : Env) (h : List Blk) (M : MM), retV tt fn.results.toList e h (fun va => va = v ∧ ∃ es' r, h = .gone :: .gho fr w.heap.size g 0 t :: .mp tg es' :: r ∧ Q es') → Rep { w with heap := #[] } [] fn.ntmps M e h a' w' →
        a'.defers = [] ∧ ∃ cv, (results fn a'.tmps).run P w' = .ok cv w' ∧ ∃ cv' es' ents' ck', Ending.returned cv = .returned cv' ∧ rep w' [none] [.gone] v cv' ∧ Kept w w' [g] [g] ∧ Q es' ∧ w'.heap[g]? = some (.map ents' ck') ∧ (∀ p ∈ es', keyK tg p.1 = true) ∧ entR w' [none] [.gone] es' ents'.toList := by
      intro e h M hr R'
      obtain ⟨va, cv, ⟨rfl, es', r, rfl, hQ⟩, hva, hrun⟩ := ret_rep hT R' hr
      refine ⟨R'.df, cv, hrun, cv, es', ?_⟩
      obtain ⟨m1, hm1⟩ := at_lt (xs := M) (k := 1) (by rw [R'.inv.len]; simp)
      obtain ⟨m2, hm2⟩ := at_lt (xs := M) (k := 2) (by rw [R'.inv.len]; simp)
      obtain ⟨q1, q2, F', q3, _⟩ : (∀ b o, fr b = some o → b ∉ M.O ∧ w'.heap[b]? = some o) ∧ w.heap.size ≤ w'.heap.size ∧ ∃ F', M[2]? = some (some (g, F')) ∧ (0 = 0 ∨ ∃ arr', w'.heap[g]? = some (.cells arr' t (0, 0)) ∧ arr'.size + 1 = 0) := R'.inv.blk 1 _ _ rfl hm1
      obtain ⟨rfl, hK', ents', ck', z1, z2⟩ := R'.inv.blk 2 _ _ rfl q3
      have back : ∀ x, x < w.heap.size → x ∉ [g] → w'.heap[x]? = w.heap[x]? := fun x hx hxm => by
        have e1 : fr x = w.heap[x]? := by simp only [fr]; rw [if_neg hxm]
        have e2 : w.heap[x]? = some w.heap[x] := Array.getElem?_eq_getElem hx
        obtain ⟨u1, u2⟩ := q1 x _ (e1.trans e2)
        rw [u2, e2]
      refine ⟨ents', ck', rfl, resT_rep hv hva, ⟨R'.ext.os, R'.ext.tape, R'.ext.output, q2, back, by simp, fun x hx => .inl hx, fun x hx => ?_⟩, hQ, z1, hK', entR_any (hfq es' hQ) z2⟩
      have : x = g := by simpa using hx
      subst this
      exact lt_of_heap z1
    cases x with
    | normal => obtain ⟨e, h, M, k1, k2⟩ := hx; exact fin e h M k1 k2
    | ret => obtain ⟨e, h, M, k1, k2⟩ := hx; exact fin e h M k1 k2
    | exit id => obtain ⟨e, h, M, k1, k2⟩ := hx; exact k1.elim
    | goto l => exact hx.elim
    | panic => exact hx.elim
    | outgrown => exact hx.elim
end Go.Proofs.YtcachhipflibkaaGreat
