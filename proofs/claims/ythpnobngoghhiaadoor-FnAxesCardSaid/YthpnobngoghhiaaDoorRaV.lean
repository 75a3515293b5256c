/- merged: several parts in one text. Leans on no more than they do. -/
import Derived.Test.YthpnobngoghhiaaDoorVMX
import Derived.Test.YthpnobngoghhiaaDoorShelf
import Derived.Test.YthpnobngoghhiaaDoorVMK
import Derived.Lib.Bytealg
import Derived.Test.YthpnobngoghhiaaDoorTT
import Derived.Test.YthpnobngoghhiaaDoorVMTac
set_option linter.unusedSimpArgs false
set_option linter.unusedVariables false
namespace Go.Proofs.YthpnobngoghhiaaDoor
open Go.RowKit
structure PZ (P : Program) (f : FuncId) (code : List D) (c : Int) (rest : List V) (Q : V → List Blk → Prop) : Prop where
  fn : ∃ fn, P.funcs[f]? = some fn ∧ (fn.name == "runtime.NumGoroutine") = false ∧ fn.body.isNone = false
  run : ∀ (pl sd : Int) (w : World) (g : Nat) (t : TypeId) (cc : Value) (args : List Value), stOK pl sd → pl + c ≤ 4611686018427387904 → w.heap[g]? = some (.cells #[cc, .int .i64 pl, .int .u64 sd] t (0, 0)) → repD [g] w (.lst code) [cc] → repT w [none] [.gone] rest args →
    Calls P f (.pointer (some ⟨g, 0, none⟩) :: args).toArray w fun en w' => ∃ v bs cv M' pl' sd', Q v bs ∧ pl ≤ pl' ∧ pl' ≤ pl + c ∧ stOK pl' sd' ∧ en = .returned cv ∧ MInv 0 w' (none :: M') (.gone :: bs) ∧ rep w' (none :: M') (.gone :: bs) v cv ∧ (∀ x ∈ MM.O M', w.heap.size ≤ x) ∧
      w'.heap[g]? = some (.cells #[cc, .int .i64 pl', .int .u64 sd'] t (0, 0)) ∧ Kept w w' [g] [g]
theorem PZ.call {P : Program} {f : FuncId} {code : List D} {c : Int} {rest : List V} {Q : V → List Blk → Prop} (pz : PZ P f code c rest Q) {pl sd : Int} {D0 : Int → Int → D} {b : Nat} {e : Env} {h : List Blk} {K : V → Env → List Blk → Prop} {v0 : V}
    (hv : ∀ (w : World) (M : MM) (h : List Blk) (cs : List Value), repC w M h v0 cs → repC w M h (.d (D0 pl sd)) cs) (hs : SrcB code h D0) (hb : h[b]? = some (.box v0)) (hb0 : Nat.ble 1 b = true) (hr : plains rest = true) (hst : stOK pl sd) (hpl : pl + c ≤ 4611686018427387904)
    (H : ∀ v bs pl' sd', Q v bs → pl ≤ pl' → pl' ≤ pl + c → stOK pl' sd' → (v.fit true && fitBs true bs) = true ∧ K (v.shift (h.length - 1)) e (h.set b (.box (.d (D0 pl' sd'))) ++ shiftBs (h.length - 1) bs)) : CallM P f (.pB b [] 0 :: rest) e h K where
  fn := pz.fn
  run B X N M a w args R hargs := by
    obtain ⟨c0, args, rfl, h1, h2⟩ := hargs
    have h2' := plains_rep (w' := w) (M' := [none]) (h' := [.gone]) rest args hr h2
    have hb1 : 1 ≤ b := Nat.le_of_ble_eq_true hb0
    have hbl : b < h.length := (List.getElem?_eq_some_iff.1 hb).1
    obtain ⟨g, F, m1, rfl⟩ := rep_pB.1 (rep_of_rep1 h1)
    obtain ⟨rfl, arr, t, hg, hcs⟩ : F = [] ∧ ∃ arr t, w.heap[g]? = some (.cells arr t (0, 0)) ∧ repC w M h v0 arr.toList := R.inv.blk b _ _ hb m1
    obtain ⟨cc, ha, k1, k2⟩ := hs.out R.inv (hv _ _ _ _ hcs)
    obtain rfl : arr = #[cc, .int .i64 pl, .int .u64 sd] := by
      apply Array.toList_inj.1
      exact ha
    have hgO : g ∈ M.O := mem_O m1 (by simp [mO])
    have hglt := lt_of_heap hg
    have kg : repD [g] w (.lst code) [cc] := by
      refine repD_mv (fun y hy _ => ⟨fun q => ?_, rfl⟩) _ _ k1
      have hyg : y = g := by simpa using q
      exact hy (hyg ▸ hgO)
    refine (pz.run pl sd w g t cc args hst hpl hg kg h2').mono ?_
    rintro en w' ⟨v, bs, cv, Mn, pl', sd', qv, p1, p2, p3, rfl, qI, qr, qlo, q4, q2⟩
    obtain ⟨hf, HK⟩ := H v bs pl' sd' qv p1 p2 p3
    simp only [Bool.and_eq_true] at hf
    obtain ⟨hf1, hf2⟩ := hf
    -- the world with the source turned, ahead of the new blocks
    obtain ⟨w1, hw1⟩ : ∃ w1 : World, w1 = { w' with heap := w'.heap.extract 0 w.heap.size } := ⟨_, rfl⟩
    have s1 : w1.heap.size = w.heap.size := by
      rw [hw1]
      have := q2.size
      simp only [Array.size_extract]
      omega
    have g1 : ∀ x, x < w.heap.size → w1.heap[x]? = w'.heap[x]? := fun x hx => by
      rw [hw1]
      have := q2.size
      simp only
      rw [Array.getElem?_extract, if_pos (by omega), Nat.zero_add]
    have hx1 : Ext B w1 := by
      have hlo := R.inv.lo b _ _ hb m1 rfl
      have : Ext B w1 := Below.trans R.ext ⟨by rw [hw1]; exact q2.os, by rw [hw1]; exact q2.tape, by rw [hw1]; exact q2.output, by rw [s1]; exact Nat.le_refl _, fun k hk => by
        have hkw : k < w.heap.size := Nat.lt_of_lt_of_le hk R.base
        rw [g1 k hkw]
        refine q2.ch k hkw (fun hm => ?_)
        have := hlo k (by simpa [mO] using hm)
        omega⟩
      exact this
    obtain ⟨M', R', _, _⟩ := R.reset (w' := w1) hx1 m1 (by omega) hb (.inl rfl) [] [] (by simp) (by simp) (by simp) (by simp) (m' := some (g, [])) q2.nd
      (fun x hx => .inl hx) (fun x hx => by
        have hxg : x = g := by simpa [mO] using hx
        rw [s1, hxg]; exact hglt) (Nat.le_of_eq s1.symm) (fun x hx hxm => by rw [g1 x hx]; exact q2.ch x hx hxm) (k' := .box (.d (D0 pl' sd'))) rfl
      (fun _ ga F1 e1 => by
        cases e1
        refine ⟨⟨[], rfl⟩, ?_, fun arr1 t1 hg1 => ?_⟩
        · simp only [nOf, hb, List.getElem?_set_self hbl]
        · rw [hg] at hg1
          cases hg1
          exact ⟨#[cc, .int .i64 pl', .int .u64 sd'], by rw [g1 g hglt]; exact q4, rfl⟩)
      (fun M' h' hx => ⟨rfl, _, t, by rw [g1 g hglt]; exact q4, k2 _ _ _ _ hx p3⟩)
    simp only [dropE, dropK, goneL] at R'
    have hx : Ext w1 w' := by
      have : Ext w1 w' := ⟨by rw [hw1], by rw [hw1], by rw [hw1], by rw [s1]; exact q2.size, fun k hk => by rw [s1] at hk; exact (g1 k hk).symm⟩
      exact this
    have hlen : Mn.length = bs.length := by have := qI.len; simpa using this
    have hlo' : ∀ x ∈ MM.O Mn, w1.heap.size ≤ x := fun x hx => by rw [s1]; exact qlo x hx
    have hnd' : (MM.O Mn).Nodup := by
      have := qI.nd
      rw [O_cons] at this
      exact (List.nodup_append.1 this).2.1
    have hhi' : ∀ g ∈ (MM.O Mn), g < w'.heap.size := fun g hg => qI.hi g (by rw [O_cons]; exact List.mem_append_right _ hg)
    have hl' : (h.set b (.box (.d (D0 pl' sd')))).length = h.length := List.length_set
    have S : Sh true [] M' (h.set b (.box (.d (D0 pl' sd')))) := ⟨R'.inv.len, by rw [hl']; omega, .inl rfl⟩
    have mv : Mv (fun _ => True) w1 M' (h.set b (.box (.d (D0 pl' sd')))) w' (M' ++ Mn) (h.set b (.box (.d (D0 pl' sd'))) ++ shiftBs (h.length - 1) bs) := push_mv R'.inv.len hx R'.inv.hi hlo'
    have e0 : (mX [] : Option (Nat × List Nat)) = none := rfl
    refine ⟨_, cv, _, _, M' ++ Mn, rfl, HK, R'.step (R'.ext.trans hx) (R'.inv.push R'.base hx (by rw [shiftBs_len]; exact hlen) hnd' hlo' hhi' ?_) mv (fr_push R'.fr _) (fr_push R'.fh _), ?_⟩
    · intro j k m hk hm
      rw [shiftBs_get] at hk
      obtain ⟨k0, hk0, rfl⟩ := Option.map_eq_some_iff.1 hk
      have := BRep_sh S (fitBs_get bs j k0 hf2 hk0) (qI.blk (j + 1) k0 m (by simpa using hk0) (by simpa using hm))
      rw [hl'] at this
      exact this
    · have := rep_sh S hf1 qr
      rw [hl'] at this
      exact this
section
variable {P : Program} {f : FuncId} {code : List D} {c : Int} {rest : List V} {Q : V → List Blk → Prop} {pl sd : Int} {b : Nat} {e : Env} {h : List Blk} {K : V → Env → List Blk → Prop}
theorem clz0_ (pz : PZ P f code c rest Q) (hpl : 0 + c ≤ 4611686018427387904) {G : V → List Blk → Int → Int → Prop} (H : ∀ v bs pl' sd', Q v bs → 0 ≤ pl' → pl' ≤ 0 + c → stOK pl' sd' → (v.fit true && fitBs true bs) = true ∧ G v bs pl' sd') (hb : h[b]? = some (.box (.st [.d (.lst code), .d (.int .i64 0), .d (.int .u64 0)])) := by rfl)
    (hb0 : Nat.ble 1 b = true := by rfl) (hr : plains rest = true := by rfl) (hk : ∀ v bs pl' sd', G v bs pl' sd' → K (v.shift (h.length - 1)) e (h.set b (.box (.d (srcD code pl' sd'))) ++ shiftBs (h.length - 1) bs) := by (intro v bs pl' sd' H; exact H)) : CallW P false f (.pB b [] 0 :: rest) e h K :=
  ⟨.inr ⟨rfl, pz.call (D0 := srcD code) (v0 := .st [.d (.lst code), .d (.int .i64 0), .d (.int .u64 0)]) (pl := 0) (sd := 0) (fun _ _ _ _ H => H) SrcB.d hb hb0 hr (by unfold stOK; simp) hpl (fun v bs pl' sd' q1 q2 q3 q4 => ⟨(H v bs pl' sd' q1 q2 q3 q4).1, hk _ _ _ _ (H v bs pl' sd' q1 q2 q3 q4).2⟩)⟩⟩
end
def zQ (tt : TT) (rs : List ResultVar) (c pl : Int) (Q : V → List Blk → Prop) (cc : Value) (G : Blk) : Post
  | .normal => fun e h => retV tt rs e h fun va => ∃ v bs, Q v bs ∧ RetOK h va v bs ∧ ∃ pl' sd' r, pl ≤ pl' ∧ pl' ≤ pl + c ∧ stOK pl' sd' ∧ h = .gone :: G :: .box (.d (srcR cc pl' sd')) :: r
  | .ret => fun e h => retV tt rs e h fun va => ∃ v bs, Q v bs ∧ RetOK h va v bs ∧ ∃ pl' sd' r, pl ≤ pl' ∧ pl' ≤ pl + c ∧ stOK pl' sd' ∧ h = .gone :: G :: .box (.d (srcR cc pl' sd')) :: r
  | .exit _ => fun _ _ => False
theorem pz_intro {P : Program} {tt : TT} (hT : TOk P tt) (hm : P.follows .mixedOrders = true) {f : FuncId} {fn : Func} {cd : Code} (hf : P.funcs[f]? = some fn) (hb : fn.body = some cd) (hname : (fn.name == "runtime.NumGoroutine") = false)
    (hN : codeB fn.ntmps cd = true) {code : List D} {c : Int} {rest : List V} (hA : Nat.ble (rest.length + 1) fn.ntmps = true) {Q : V → List Blk → Prop} (hrp : plains rest = true)
    (H : ∀ (k : Nat → Option Obj) (s g : Nat) (t : TypeId) (cc : Value) (pl sd : Int), wfVs rest → stOK pl sd → pl + c ≤ 4611686018427387904 →
      wpC P tt cd (zQ tt fn.results.toList c pl Q cc (.gho k s g 4 t)) (argE 0 (.pB 2 [] 0 :: rest)) [.gone, .gho k s g 4 t, .box (.d (srcR cc pl sd)), .keep [(0, .d (.lst code))] (fun _ => cc)]) : PZ P f code c rest Q where
  fn := ⟨fn, hf, hname, by rw [hb]; rfl⟩
  run := fun pl sd w g t cc args hst hpl hg hcode hargs => by
    have hO : MM.O [none, none, some (g, []), none] = [g] := by simp [MM.O, mO]
    have hglt := lt_of_heap hg
    let fr : Nat → Option Obj := fun b => if b ∈ [g] then none else w.heap[b]?
    have hfr : ∀ b o, fr b = some o → b ∉ [g] ∧ w.heap[b]? = some o := fun b o hc => by
      simp only [fr] at hc
      split at hc
      · cases hc
      · rename_i hm'; exact ⟨hm', hc⟩
    have hlenT : ∀ (vs : List V) (cs : List Value), repT w [none] [.gone] vs cs → cs.length = vs.length := by
      intro vs
      induction vs with
      | nil => intro cs H; cases H; rfl
      | cons v vs ih => intro cs H; obtain ⟨c, cs', rfl, _, h2⟩ := H; simp [ih _ h2]
    have hl := hlenT rest args hargs
    have hA' := Nat.le_of_ble_eq_true hA
    have hcc1 : cc.oneCell' = true := repD_one (.lst code) [cc] hcode cc (by simp)
    have hargs2 : repT w [none, none, some (g, []), none] [.gone, .gho fr w.heap.size g 4 t, .box (.d (srcR cc pl sd)), .keep [(0, .d (.lst code))] (fun _ => cc)] (.pB 2 [] 0 :: rest) (.pointer (some ⟨g, 0, none⟩) :: args) := by
      refine ⟨_, args, rfl, rep1_of_rep rfl (rep_pB.2 ⟨g, [], rfl, rfl⟩), plains_rep rest args hrp hargs⟩
    have R : Rep { w with heap := #[] } [] fn.ntmps [none, none, some (g, []), none] (argE 0 (.pB 2 [] 0 :: rest)) [.gone, .gho fr w.heap.size g 4 t, .box (.d (srcR cc pl sd)), .keep [(0, .d (.lst code))] (fun _ => cc)]
        { tmps := (.pointer (some ⟨g, 0, none⟩) :: args).toArray ++ Array.replicate (fn.ntmps - (Value.pointer (some ⟨g, 0, none⟩) :: args).toArray.size) Go.undef, defers := [] } w := {
      ext := ⟨rfl, rfl, rfl, Nat.zero_le _, fun k hk => by simp at hk⟩
      inv := ⟨rfl, fun b k m hk hm => by
          match b, hk, hm with
          | 0, hk, hm => simp at hk; subst hk; trivial
          | 1, hk, hm =>
            simp at hk hm
            subst hk
            exact ⟨fun b o hc => by rw [hO]; exact hfr b o hc, Nat.le_refl _, [], rfl, .inr ⟨_, hg, rfl⟩⟩
          | 2, hk, hm =>
            simp at hk hm
            subst hk
            subst hm
            exact ⟨rfl, _, t, hg, srcR_rep.2 ⟨rfl, hcc1, stOK_in hst⟩⟩
          | 3, hk, hm =>
            simp at hk hm
            subst hk
            intro k
            cases k with
            | zero =>
              refine rep_of_rep1 ?_
              show repD (MM.O [none, none, some (g, []), none]) w (.lst code) [cc]
              rw [hO]; exact hcode
            | succ k => trivial
          | b + 4, hk, hm => simp at hk, by rw [hO]; simp, fun _ _ _ _ _ _ g' _ => Nat.zero_le _, by
          rw [hO]
          intro x hx
          have : x = g := by simpa using hx
          subst this
          exact hglt⟩
      env := fun k => by
        rw [argE_get, if_pos (Nat.zero_le _), Nat.sub_zero]
        split
        · rename_i v hv
          obtain ⟨cc', q1, q2⟩ := repT_get _ _ k v hargs2 hv
          have hk : k < (Value.pointer (some ⟨g, 0, none⟩) :: args).length := (List.getElem?_eq_some_iff.1 q1).1
          have : ((.pointer (some ⟨g, 0, none⟩) :: args).toArray ++ Array.replicate (fn.ntmps - (Value.pointer (some ⟨g, 0, none⟩) :: args).toArray.size) Go.undef).getD k Go.undef = cc' := by
            rw [Array.getD_eq_getD_getElem?, Array.getElem?_append_left (by simpa using hk)]
            simp only [List.getElem?_toArray, q1, Option.getD_some]
          dsimp only
          rw [this]
          exact rep_of_rep1 q2
        · trivial
      sz := by simp [hl]; omega
      df := rfl
      fr := rfl
      fh := rfl }
    have hwf : wfVs rest := repT_wf _ _ hargs
    refine calls_of_wp hf hb (wp_mono (code_sound hT hm cd _ _ _ _ _ _ hN (H fr w.heap.size g t cc pl sd hwf hst hpl) R) fun x a' w' hx => ?_)
    have fin : ∀ (e : Env) (h : List Blk) (M : MM), retV tt fn.results.toList e h (fun va => ∃ v bs, Q v bs ∧ RetOK h va v bs ∧ ∃ pl' sd' r, pl ≤ pl' ∧ pl' ≤ pl + c ∧ stOK pl' sd' ∧ h = .gone :: .gho fr w.heap.size g 4 t :: .box (.d (srcR cc pl' sd')) :: r) → Rep { w with heap := #[] } [] fn.ntmps M e h a' w' →
        a'.defers = [] ∧ ∃ cv, (results fn a'.tmps).run P w' = .ok cv w' ∧ ∃ v bs cv' M' pl' sd', Q v bs ∧ pl ≤ pl' ∧ pl' ≤ pl + c ∧ stOK pl' sd' ∧ Ending.returned cv = .returned cv' ∧ MInv 0 w' (none :: M') (.gone :: bs) ∧ rep w' (none :: M') (.gone :: bs) v cv' ∧ (∀ x ∈ MM.O M', w.heap.size ≤ x) ∧ w'.heap[g]? = some (.cells #[cc, .int .i64 pl', .int .u64 sd'] t (0, 0)) ∧ Kept w w' [g] [g] := by
      intro e h M hr R'
      have post : ∀ {va : V} {cv : Value}, rep w' M h va cv → (∃ v bs, Q v bs ∧ RetOK h va v bs ∧ ∃ pl' sd' r, pl ≤ pl' ∧ pl' ≤ pl + c ∧ stOK pl' sd' ∧ h = .gone :: .gho fr w.heap.size g 4 t :: .box (.d (srcR cc pl' sd')) :: r) → ∃ v bs cv' M' pl' sd', Q v bs ∧ pl ≤ pl' ∧ pl' ≤ pl + c ∧ stOK pl' sd' ∧ Ending.returned cv = .returned cv' ∧ MInv 0 w' (none :: M') (.gone :: bs) ∧ rep w' (none :: M') (.gone :: bs) v cv' ∧ (∀ x ∈ MM.O M', w.heap.size ≤ x) ∧ w'.heap[g]? = some (.cells #[cc, .int .i64 pl', .int .u64 sd'] t (0, 0)) ∧ Kept w w' [g] [g] := by
        rintro va cv hva ⟨v, bs, hq, hret, pl', sd', r, p1, p2, p3, rfl⟩
        obtain ⟨m1, hm1⟩ := at_lt (xs := M) (k := 1) (by rw [R'.inv.len]; simp)
        obtain ⟨q1, q2, F', q3, q45⟩ : (∀ b o, fr b = some o → b ∉ M.O ∧ w'.heap[b]? = some o) ∧ w.heap.size ≤ w'.heap.size ∧ ∃ F', M[2]? = some (some (g, F')) ∧ (4 = 0 ∨ ∃ arr', w'.heap[g]? = some (.cells arr' t (0, 0)) ∧ arr'.size + 1 = 4) := R'.inv.blk 1 _ _ rfl hm1
        obtain ⟨arr', q4, q5⟩ : ∃ arr', w'.heap[g]? = some (.cells arr' t (0, 0)) ∧ arr'.size + 1 = 4 := by
          rcases q45 with q | q
          · cases q
          · exact q
        obtain ⟨rfl, arr2, t2, z1, z2⟩ : F' = [] ∧ ∃ arr t, w'.heap[g]? = some (.cells arr t (0, 0)) ∧ repD M.O w' (srcR cc pl' sd') arr.toList := R'.inv.blk 2 _ _ rfl q3
        rw [q4] at z1
        cases z1
        obtain ⟨z3, _⟩ := srcR_rep.1 z2
        obtain rfl : arr' = #[cc, .int .i64 pl', .int .u64 sd'] := Array.toList_inj.1 z3
        have back : ∀ x, x < w.heap.size → x ∉ [g] → x ∉ M.O ∧ w'.heap[x]? = w.heap[x]? := fun x hx hxm => by
          have e1 : fr x = w.heap[x]? := by simp only [fr]; rw [if_neg hxm]
          have e2 : w.heap[x]? = some w.heap[x] := Array.getElem?_eq_getElem hx
          obtain ⟨u1, u2⟩ := q1 x _ (e1.trans e2)
          exact ⟨u1, by rw [u2, e2]⟩
        obtain ⟨M', y1, y2, y3⟩ := ret_sound3 R' hva hret
        refine ⟨v, bs, cv, M', pl', sd', hq, p1, p2, p3, rfl, y1, y2, fun x hx => ?_, q4, ⟨R'.ext.os, R'.ext.tape, R'.ext.output, q2, fun x hx hxm => (back x hx hxm).2, by simp, fun x hx => .inl hx, fun x hx => R'.inv.hi x (mem_O q3 hx)⟩⟩
        obtain ⟨b, m, n, xs, dp, hbm, hxm, hbb⟩ := y3 x hx
        refine Nat.le_of_not_lt fun hlt => ?_
        refine (back x hlt (fun hxg => ?_)).1 (mem_O hbm hxm)
        have hb2 : b = 2 := by
          have hxg' : x ∈ mO (some (g, [])) := by simpa [mO] using hxg
          exact O_block_inj R'.inv q3 hbm hxg' hxm
        subst hb2
        cases hbb
      obtain ⟨vs, cvs, h1, h2, h3, h4⟩ := res_sound hT R' _ _ hr
      refine ⟨R'.df, _, run_results h4, ?_⟩
      match vs, cvs, h2 with
      | [va], [cv], _ =>
        obtain ⟨c', k1, k2⟩ := h3 0 va rfl
        cases k1
        exact post k2 h1
      | [], [], _ => exact post (va := .tup []) (cv := .tuple #[]) ⟨[], rfl, rfl⟩ h1
      | va :: vb :: vs, ca :: cb :: cvs, h2 =>
        dsimp only at h1
        cases hok : okTs (va :: vb :: vs) with
        | false => rw [hok] at h1; exact h1.elim
        | true =>
          rw [hok] at h1
          simp only [cond_true] at h1
          have hall : ∀ (vs : List V) (cs : List Value), vs.length = cs.length → okTs vs = true → (∀ (i : Nat) (v : V), vs[i]? = some v → ∃ c, cs[i]? = some c ∧ rep w' M h v c) → repT w' M h vs cs := by
            intro vs
            induction vs with
            | nil => intro cs hl _ _; cases cs with
              | nil => rfl
              | cons _ _ => simp at hl
            | cons v vs ih =>
              intro cs hl ho hg
              cases cs with
              | nil => simp at hl
              | cons c cs =>
                simp only [okTs, Bool.and_eq_true] at ho
                obtain ⟨c', k1, k2⟩ := hg 0 v rfl
                cases k1
                exact ⟨c, cs, rfl, rep1_of_rep ho.1 k2, ih cs (by simpa using hl) ho.2 fun i u hi => by simpa using hg (i + 1) u (by simpa using hi)⟩
          exact post (va := .tup (va :: vb :: vs)) (cv := .tuple (ca :: cb :: cvs).toArray) ⟨_, rfl, hall _ _ h2 hok h3⟩ h1
    cases x with
    | normal => obtain ⟨e, h, M, k1, k2⟩ := hx; exact fin e h M k1 k2
    | ret => obtain ⟨e, h, M, k1, k2⟩ := hx; exact fin e h M k1 k2
    | exit id => obtain ⟨e, h, M, k1, k2⟩ := hx; exact k1.elim
    | goto l => exact hx.elim
    | panic => exact hx.elim
    | outgrown => exact hx.elim
theorem share {K S : V → Env → List Blk → Prop} {G : Prop} (h1 : (∀ v e h, S v e h → K v e h) → G) (h2 : ∀ v e h, S v e h → K v e h) : G := h1 h2
theorem PEs.callS {P : Program} {f : FuncId} {code : List D} {c : Int} {rest : List V} {Q : V → Prop} (pe : PEs P f code c rest Q) {pl sd : Int} {D0 : Int → Int → D} {b : Nat} {e : Env} {h : List Blk} {K : V → Env → List Blk → Prop} {v0 : V}
    (hv : ∀ (w : World) (M : MM) (h : List Blk) (cs : List Value), repC w M h v0 cs → repC w M h (.d (D0 pl sd)) cs) (hs : SrcB code h D0) (hb : h[b]? = some (.box v0)) (hb0 : Nat.ble 1 b = true) (hr : plains rest = true) (hst : stOK pl sd) (hpl : pl + c ≤ 4611686018427387904) (hQ : ∀ v, Q v → v.resOK = true)
    (S : V → Env → List Blk → Prop) (H : ∀ v pl' sd', Q v → pl ≤ pl' → pl' ≤ pl + c → stOK pl' sd' → ∃ e0 h0, S v e0 h0 ∧ Weak e (h.set b (.box (.d (D0 pl' sd')))) e0 h0) (HK : ∀ v e h, S v e h → K v e h) : CallM P f (.pB b [] 0 :: rest) e h K where
  fn := pe.fn
  run B X N M a w args R hargs := by
    have hc := pe.call (K := fun v e' h' => v.resOK = true ∧ ∃ e0 h0, S v e0 h0 ∧ Weak e' h' e0 h0) hv hs hb hb0 hr hst hpl (fun v pl' sd' q1 q2 q3 q4 => ⟨hQ v q1, H v pl' sd' q1 q2 q3 q4⟩)
    refine (hc.run B X N M a w args R hargs).mono ?_
    rintro en w' ⟨v, cv, e', h', M', rfl, ⟨hv1, e0, h0, hS, hW⟩, R', hr'⟩
    obtain ⟨M2, R2⟩ := hW _ _ _ _ _ _ R'
    exact ⟨v, cv, e0, h0, M2, rfl, HK v e0 h0 hS, R2, res_rep hv1 hr'⟩
theorem clrS_ {P : Program} {f : FuncId} {code : List D} {c : Int} {rest : List V} {Q : V → Prop} {pl sd : Int} {b : Nat} {e : Env} {h : List Blk} {K : V → Env → List Blk → Prop} {cc : Value} {e1 : Env} {f0 : Nat → Value}
    (pe : PEs P f code c rest Q) (hst : stOK pl sd) (hpl : pl + c ≤ 4611686018427387904) (hQ : ∀ v, Q v → v.resOK = true) (S : V → Env → List Blk → Prop) {h' : Int → Int → List Blk} (H : ∀ v pl' sd', Q v → pl ≤ pl' → pl' ≤ pl + c → stOK pl' sd' → ∃ e0 h0, S v e0 h0 ∧ Weak e (h' pl' sd') e0 h0) (HK : ∀ v e h, S v e h → K v e h) (hb : h[b]? = some (.box (.d (srcR cc pl sd))) := by rfl)
    (hk3 : h[3]? = some (.keep e1 f0) := by rfl) (he : gt e1 0 = .d (.lst code) := by rfl) (hf : f0 0 = cc := by rfl) (hb0 : Nat.ble 1 b = true := by rfl) (hr : plains rest = true := by rfl)
    (hh : ∀ pl' sd', h' pl' sd' = h.set b (.box (.d (srcR cc pl' sd'))) := by (intro _ _; rfl)) : CallW P false f (.pB b [] 0 :: rest) e h K :=
  ⟨.inr ⟨rfl, pe.callS (fun _ _ _ _ H => H) (SrcB.r hk3 he hf) hb hb0 hr hst hpl hQ S (fun v pl' sd' q1 q2 q3 q4 => by rw [← hh]; exact H v pl' sd' q1 q2 q3 q4) HK⟩⟩
theorem on_res {v : V} (h : ∃ b, v = .d (.bool b)) : v.resOK = true := by obtain ⟨x, rfl⟩ := h; rfl
def DaQ (nm : ByteArray) (v : V) (bs : List Blk) : Prop := (∃ mi de ma : Int, v = .st [.d (.str nm), .d (.int .i64 mi), .d (.int .i64 de), .d (.int .i64 ma), .nils] ∧ bs = []) ∨
  ∃ (mi de ma : Int) (ps : List TAxisPoint), ps.length ≤ 6 ∧ v = .st [.d (.str nm), .d (.int .i64 mi), .d (.int .i64 de), .d (.int .i64 ma), .own 1 0 ps.length] ∧ bs = [.arr 2 (ps.map TAxisPoint.D) true]
def trA15 : OT := .q 0 (.q 2 (.q 3 (.q 4 (.q 5 (.alt 1 (.alt 6 (.q 7 (.alt 8 (.alt 9 (.alt 10 (.q 11 (.alt 12 .done .nil)) .nil) .nil) .nil)) .nil) (.alt 6 (.q 1 (.q 7 (.alt 8 (.alt 9 (.alt 10 (.q 11 (.alt 12 .done .nil)) .nil) .nil) .nil))) .nil))))))
def trA19 : OT := .q 0 (.q 2 (.q 3 (.q 4 (.alt 1 (.alt 5 (.alt 6 (.alt 7 (.alt 8 (.q 9 (.alt 10 .done .nil)) .nil) .nil) .nil) .nil) (.alt 5 (.q 1 (.alt 6 (.alt 7 (.alt 8 (.q 9 (.alt 10 .done .nil)) .nil) .nil) .nil)) .nil)))))
set_option maxHeartbeats 8000000 in
theorem l29Draw_z (code : List UInt8) (nm : ByteArray) : PZ Tryd.prog 25 (code.map bD) 20 [.d (.str nm)] (DaQ nm) := by
  refine pz_intro ttOk (by kernel_rfl) Tryd.func25 rfl (by kernel_rfl) (by kernel_rfl) (by rfl) (by rfl) (fun k s g t cc pl sd hw hst hpl => ?_)
  have p4 := pick_e code 4
  have p7 := pick_e code 7
  have p3 := pick_e code 3
  have p16 := pick_e code 16000
  have p8 := pick_e code 8000
  have pO := pick_e code 16384
  have o2 := one_e code 2
  (conv => whnf)
  (repeat ((fail_if_success (with_reducible apply RegD.id)); (refine stg_ ?_)))
  (refine clr_ p4 (by assumption) (by omega) ?_; rintro _ pl1 sd1 ⟨n, rfl, hn0, hn⟩ hl1 hl2 hs1; (conv => whnf))
  (repeat ((fail_if_success (with_reducible apply RegD.id)); (refine stg_ ?_)))
  apply share (S := fun v e h => ∃ pl' sd' mi de ma b, pl ≤ pl' ∧ pl' ≤ pl + 6 ∧ stOK pl' sd' ∧ v = .d (.bool b) ∧ e = [(0, .pB 2 [] 0), (4, .pB 4 [] 0), (5, .pB 5 [] 0)] ∧ h = [.gone, .gho k s g 4 t, .box (.d (srcR cc pl' sd')), .keep [(0, .d (.lst (code.map bD)))] (fun _ => cc), .box (.st [.d (.str .empty), .d (.int .i64 0), .d (.int .i64 0), .d (.int .i64 0), .nils]), .box (.st [.d (.str nm), .d (.int .i64 mi), .d (.int .i64 de), .d (.int .i64 ma), .nils])])
  · intro H9
    (refine br_ (fun h0 => ?_) (fun h0 => ?_))
    · (repeat ((fail_if_success (with_reducible apply RegD.id)); (refine stg_ ?_)))
      (refine clr_ p7 (by assumption) (by omega) ?_; rintro _ pl2 sd2 ⟨n7, rfl, hn70, hn7⟩ hl3 hl4 hs2; (conv => whnf))
      (repeat ((fail_if_success (with_reducible apply RegD.id)); (refine stg_ ?_)))
      refine clrS_ o2 (by assumption) (by omega) (fun _ => on_res) _ ?_ H9
      rintro _ pl3 sd3 ⟨b, rfl⟩ hl5 hl6 hs3
      refine ⟨_, _, ⟨pl3, sd3, -32000, n7 - 3, 32000, b, by omega, by omega, hs3, rfl, rfl, rfl⟩, ?_⟩
      (refine Weak.cov ?_ ?_ ?_; (focus (repeat' (first | exact trivial | with_reducible rfl | (refine ⟨?_, ?_⟩) | rfl))); (focus (repeat' (first | exact trivial | with_reducible rfl | (refine ⟨?_, ?_⟩) | rfl))); (focus rfl))
    · (repeat ((fail_if_success (with_reducible apply RegD.id)); (refine stg_ ?_)))
      (refine br_ (fun h1 => ?_) (fun h1 => ?_))
      · (repeat ((fail_if_success (with_reducible apply RegD.id)); (refine stg_ ?_)))
        (refine CallW.inl ttOk (by kernel_rfl) Tryd.func40 rfl (by kernel_rfl) (by kernel_rfl) (by rfl) (fun s => ?_); (conv => whnf))
        (repeat ((fail_if_success (with_reducible apply RegD.id)); (refine stg_ ?_)))
        (refine clr_ p3 (by assumption) (by omega) ?_; rintro _ pl2 sd2 ⟨n3, rfl, hn30, hn3⟩ hl3 hl4 hs2; (conv => whnf))
        obtain rfl | rfl | rfl : n3 = 0 ∨ n3 = 1 ∨ n3 = 2 := by omega
        all_goals
          (repeat ((fail_if_success (with_reducible apply RegD.id)); (refine stg_ ?_)))
          refine EoW.at rfl ?_
          (conv => whnf)
          (repeat ((fail_if_success (with_reducible apply RegD.id)); (refine stg_ ?_)))
          (refine And.intro rfl ?_; (conv => whnf))
          (repeat ((fail_if_success (with_reducible apply RegD.id)); (refine stg_ ?_)))
          refine clrS_ o2 (by assumption) (by omega) (fun _ => on_res) _ ?_ H9
          rintro _ pl3 sd3 ⟨b, rfl⟩ hl5 hl6 hs3
        · refine ⟨_, _, ⟨pl3, sd3, 100, 100, 900, b, by omega, by omega, hs3, rfl, rfl, rfl⟩, ?_⟩
          (refine Weak.cov ?_ ?_ ?_; (focus (repeat' (first | exact trivial | with_reducible rfl | (refine ⟨?_, ?_⟩) | rfl))); (focus (repeat' (first | exact trivial | with_reducible rfl | (refine ⟨?_, ?_⟩) | rfl))); (focus rfl))
        · refine ⟨_, _, ⟨pl3, sd3, 100, 900, 900, b, by omega, by omega, hs3, rfl, rfl, rfl⟩, ?_⟩
          (refine Weak.cov ?_ ?_ ?_; (focus (repeat' (first | exact trivial | with_reducible rfl | (refine ⟨?_, ?_⟩) | rfl))); (focus (repeat' (first | exact trivial | with_reducible rfl | (refine ⟨?_, ?_⟩) | rfl))); (focus rfl))
        · refine ⟨_, _, ⟨pl3, sd3, 100, 333, 900, b, by omega, by omega, hs3, rfl, rfl, rfl⟩, ?_⟩
          (refine Weak.cov ?_ ?_ ?_; (focus (repeat' (first | exact trivial | with_reducible rfl | (refine ⟨?_, ?_⟩) | rfl))); (focus (repeat' (first | exact trivial | with_reducible rfl | (refine ⟨?_, ?_⟩) | rfl))); (focus rfl))
      · (repeat ((fail_if_success (with_reducible apply RegD.id)); (refine stg_ ?_)))
        refine clrS_ o2 (by assumption) (by omega) (fun _ => on_res) _ ?_ H9
        rintro _ pl3 sd3 ⟨b, rfl⟩ hl5 hl6 hs3
        refine ⟨_, _, ⟨pl3, sd3, 100, 400, 900, b, by omega, by omega, hs3, rfl, rfl, rfl⟩, ?_⟩
        (refine Weak.cov ?_ ?_ ?_; (focus (repeat' (first | exact trivial | with_reducible rfl | (refine ⟨?_, ?_⟩) | rfl))); (focus (repeat' (first | exact trivial | with_reducible rfl | (refine ⟨?_, ?_⟩) | rfl))); (focus rfl))
  · rintro v e h ⟨pl1, sd1, mi, de, ma, b, hl1, hl2, hs1, rfl, rfl, rfl⟩
    (conv => whnf)
    have hap : ∀ (ps : List TAxisPoint) (q : TAxisPoint), some (Blk.arr 2 ((ps.map TAxisPoint.D).take ps.length ++ [q.D]) true) = some (Blk.arr 2 ((ps ++ [q]).map TAxisPoint.D) true) := fun ps q => by
      rw [List.take_of_length_le (by simp), List.map_append]; rfl
    have hst0 : ∀ ps : List TAxisPoint, (ps.map TAxisPoint.D).length = ps.length := fun ps => List.length_map _
    cases b
    · (conv => whnf)
      (repeat ((fail_if_success (with_reducible apply RegD.id)); (refine stg_ ?_)))
      refine clrS_ o2 (by assumption) (by omega) (fun _ => on_res) (fun v e h => ∃ pl' sd' b, pl ≤ pl' ∧ pl' ≤ pl + 8 ∧ stOK pl' sd' ∧ v = .d (.bool b) ∧ e = [(0, .pB 2 [] 0), (4, .pB 4 [] 0), (5, .pB 5 [] 0), (6, .d (.int .i64 16384))] ∧ h = [.gone, .gho k s g 4 t, .box (.d (srcR cc pl' sd')), .keep [(0, .d (.lst (code.map bD)))] (fun _ => cc), .box (.st [.d (.str .empty), .d (.int .i64 0), .d (.int .i64 0), .d (.int .i64 0), .nils]), .box (.st [.d (.str nm), .d (.int .i64 mi), .d (.int .i64 de), .d (.int .i64 ma), .own 6 0 1]), .arr 2 [TAxisPoint.D ⟨-16384, -16384⟩] true]) ?_ ?_
      · rintro _ pl2 sd2 ⟨b, rfl⟩ hl3 hl4 hs2
        refine ⟨_, _, ⟨pl2, sd2, b, by omega, by omega, hs2, rfl, rfl, rfl⟩, ?_⟩
        (refine Weak.cov ?_ ?_ ?_; (focus (repeat' (first | exact trivial | with_reducible rfl | (refine ⟨?_, ?_⟩) | rfl))); (focus (repeat' (first | exact trivial | with_reducible rfl | (refine ⟨?_, ?_⟩) | rfl))); (focus rfl))
      rintro v e h ⟨pl1, sd1, b, hl1, hl2, hs1, rfl, rfl, rfl⟩
      (conv => whnf)
      apply share (S := fun v e h => ∃ pl' sd' b, ∃ ps : List TAxisPoint, pl ≤ pl' ∧ pl' ≤ pl + 14 ∧ stOK pl' sd' ∧ ps.length ≤ 3 ∧ v = .d (.bool b) ∧ e = [(0, .pB 2 [] 0), (4, .pB 4 [] 0), (5, .pB 5 [] 0), (6, .d (.int .i64 16384))] ∧ h = [.gone, .gho k s g 4 t, .box (.d (srcR cc pl' sd')), .keep [(0, .d (.lst (code.map bD)))] (fun _ => cc), .box (.st [.d (.str .empty), .d (.int .i64 0), .d (.int .i64 0), .d (.int .i64 0), .nils]), .box (.st [.d (.str nm), .d (.int .i64 mi), .d (.int .i64 de), .d (.int .i64 ma), .own 6 0 ps.length]), .arr 2 (ps.map TAxisPoint.D) true])
      · intro H17
        refine br_ (fun hb => ?_) (fun hb => ?_)
        rotate_left
        · (repeat (first | ((with_reducible apply ApW.id); (refine ApW.at (by simp only [List.length_cons, List.length_nil]; show _ ≤ 9223372036854775807; omega) (by simp only [List.length_cons, List.length_nil]; show _ * 16 ≤ 140737488355328; omega) ?_; (conv => whnf))) | ((fail_if_success (with_reducible apply RegD.id)); (fail_if_success (with_reducible apply ApW.id)); (refine stg_ ?_))))
          refine clrS_ o2 (by assumption) (by omega) (fun _ => on_res) _ ?_ H17
          rintro _ pl2 sd2 ⟨b, rfl⟩ hl3 hl4 hs2
          refine ⟨_, _, ⟨pl2, sd2, b, [⟨-16384, -16384⟩, ⟨0, 0⟩], by omega, by omega, hs2, by simp, rfl, rfl, rfl⟩, ?_⟩
          (refine Weak.cov ?_ ?_ ?_; (focus (repeat' (first | exact trivial | with_reducible rfl | (refine ⟨?_, ?_⟩) | rfl))); (focus (repeat' (first | exact trivial | with_reducible rfl | (refine ⟨?_, ?_⟩) | rfl))); (focus rfl))
        · (repeat ((fail_if_success (with_reducible apply RegD.id)); (refine stg_ ?_)))
          (refine clr_ p16 (by assumption) (by omega) ?_; rintro _ pl2 sd2 ⟨n16, rfl, hn160, hn16⟩ hl3 hl4 hs2; (conv => whnf))
          (repeat ((fail_if_success (with_reducible apply RegD.id)); (refine stg_ ?_)))
          refine RegD.cutS (fun e h => ∃ pl' sd', ∃ p : TAxisPoint, pl ≤ pl' ∧ pl' ≤ pl + 12 ∧ stOK pl' sd' ∧ e = [(0, .pB 2 [] 0), (4, .pB 4 [] 0), (5, .pB 5 [] 0), (6, .d (.int .i64 16384))] ∧ h = [.gone, .gho k s g 4 t, .box (.d (srcR cc pl' sd')), .keep [(0, .d (.lst (code.map bD)))] (fun _ => cc), .box (.st [.d (.str .empty), .d (.int .i64 0), .d (.int .i64 0), .d (.int .i64 0), .nils]), .box (.st [.d (.str nm), .d (.int .i64 mi), .d (.int .i64 de), .d (.int .i64 ma), .own 6 0 2]), .arr 2 [TAxisPoint.D ⟨-16384, -16384⟩, p.D] true]) trA15 (by kernel_rfl) ?_ ?_
          · (conv => whnf)
            (repeat ((fail_if_success (with_reducible apply RegD.id)); (refine stg_ ?_)))
            refine And.intro ?_ ?_ <;> (conv => whnf)
            all_goals (repeat ((fail_if_success (with_reducible apply RegD.id)); (refine stg_ ?_)))
            all_goals ((refine clr_ pO (by assumption) (by omega) ?_; rintro _ pl3 sd3 ⟨nO, rfl, hnO0, hnO⟩ hl5 hl6 hs3; (conv => whnf)))
            all_goals (repeat (first | ((with_reducible apply ApW.id); (refine ApW.at (by simp only [List.length_cons, List.length_nil]; show _ ≤ 9223372036854775807; omega) (by simp only [List.length_cons, List.length_nil]; show _ * 16 ≤ 140737488355328; omega) ?_; (conv => whnf))) | ((fail_if_success (with_reducible apply RegD.id)); (fail_if_success (with_reducible apply ApW.id)); (refine stg_ ?_))))
            all_goals (refine ⟨_, _, ⟨pl3, sd3, ⟨0 - (n16 + 1), 0 - nO⟩, by omega, by omega, hs3, rfl, rfl⟩, ?_⟩; (refine Weak.cov ?_ ?_ ?_; (focus (repeat' (first | exact trivial | with_reducible rfl | (refine ⟨?_, ?_⟩) | rfl))); (focus (repeat' (first | exact trivial | with_reducible rfl | (refine ⟨?_, ?_⟩) | rfl))); (focus rfl)))
          · rintro e h ⟨pl3, sd3, p, hl5, hl6, hs3, rfl, rfl⟩
            (conv => whnf)
            (repeat (first | ((with_reducible apply ApW.id); (refine ApW.at (by simp only [List.length_cons, List.length_nil]; show _ ≤ 9223372036854775807; omega) (by simp only [List.length_cons, List.length_nil]; show _ * 16 ≤ 140737488355328; omega) ?_; (conv => whnf))) | ((fail_if_success (with_reducible apply RegD.id)); (fail_if_success (with_reducible apply ApW.id)); (refine stg_ ?_))))
            refine clrS_ o2 (by assumption) (by omega) (fun _ => on_res) _ ?_ H17
            rintro _ pl4 sd4 ⟨b, rfl⟩ hl7 hl8 hs4
            refine ⟨_, _, ⟨pl4, sd4, b, [⟨-16384, -16384⟩, p, ⟨0, 0⟩], by omega, by omega, hs4, by simp, rfl, rfl, rfl⟩, ?_⟩
            (refine Weak.cov ?_ ?_ ?_; (focus (repeat' (first | exact trivial | with_reducible rfl | (refine ⟨?_, ?_⟩) | rfl))); (focus (repeat' (first | exact trivial | with_reducible rfl | (refine ⟨?_, ?_⟩) | rfl))); (focus rfl))
      · rintro v e h ⟨pl1, sd1, b, ps, hl1, hl2, hs1, hps, rfl, rfl, rfl⟩
        have hpl1 := hst0 ps
        (conv => whnf)
        cases b
        · (conv => whnf)
          (repeat (first | ((with_reducible apply ApW.id); (refine ApW.at (by simp only [List.length_cons, List.length_nil]; show _ ≤ 9223372036854775807; omega) (by simp only [List.length_cons, List.length_nil]; show _ * 16 ≤ 140737488355328; omega) ?_; (conv => whnf))) | ((fail_if_success (with_reducible apply RegD.id)); (fail_if_success (with_reducible apply ApW.id)); (refine stg_ ?_))))
          refine ⟨_, _, .inr ⟨mi, de, ma, ps ++ [⟨16384, 16384⟩], by simp; omega, rfl, rfl⟩, ?_, pl1, sd1, _, by omega, by omega, hs1, rfl⟩
          refine ⟨⟨[some 6], ⟨by decide, hap ps ⟨16384, 16384⟩, trivial, trivial⟩, by decide, ⟨rfl, ?_⟩⟩⟩
          rw [List.length_append]
          (repeat' (first | ((conv => whnf); done) | ((conv => whnf); (first | (exact ⟨by decide, rfl⟩) | (exact ⟨rfl, rfl⟩) | (refine ⟨_, _, rfl, ?_, ?_⟩) | (refine ⟨_, rfl, ?_⟩) | rfl))))
        · (conv => whnf)
          (repeat ((fail_if_success (with_reducible apply RegD.id)); (refine stg_ ?_)))
          (refine clr_ p8 (by assumption) (by omega) ?_; rintro _ pl2 sd2 ⟨n8, rfl, hn80, hn8⟩ hl3 hl4 hs2; (conv => whnf))
          (repeat ((fail_if_success (with_reducible apply RegD.id)); (refine stg_ ?_)))
          refine RegD.cutS (fun e h => ∃ pl' sd', ∃ qs : List TAxisPoint, pl ≤ pl' ∧ pl' ≤ pl + 18 ∧ stOK pl' sd' ∧ qs.length ≤ 4 ∧ e = [(0, .pB 2 [] 0), (4, .pB 4 [] 0), (5, .pB 5 [] 0), (6, .d (.int .i64 16384))] ∧ h = [.gone, .gho k s g 4 t, .box (.d (srcR cc pl' sd')), .keep [(0, .d (.lst (code.map bD)))] (fun _ => cc), .box (.st [.d (.str .empty), .d (.int .i64 0), .d (.int .i64 0), .d (.int .i64 0), .nils]), .box (.st [.d (.str nm), .d (.int .i64 mi), .d (.int .i64 de), .d (.int .i64 ma), .own 6 0 qs.length]), .arr 2 (qs.map TAxisPoint.D) true]) trA19 (by kernel_rfl) ?_ ?_
          · (conv => whnf)
            (repeat ((fail_if_success (with_reducible apply RegD.id)); (refine stg_ ?_)))
            refine And.intro ?_ ?_ <;> (conv => whnf)
            all_goals (repeat ((fail_if_success (with_reducible apply RegD.id)); (refine stg_ ?_)))
            all_goals ((refine clr_ pO (by assumption) (by omega) ?_; rintro _ pl3 sd3 ⟨nO, rfl, hnO0, hnO⟩ hl5 hl6 hs3; (conv => whnf)))
            all_goals (repeat (first | ((with_reducible apply ApW.id); (refine ApW.at (by simp only [List.length_cons, List.length_nil]; show _ ≤ 9223372036854775807; omega) (by simp only [List.length_cons, List.length_nil]; show _ * 16 ≤ 140737488355328; omega) ?_; (conv => whnf))) | ((fail_if_success (with_reducible apply RegD.id)); (fail_if_success (with_reducible apply ApW.id)); (refine stg_ ?_))))
            all_goals (refine ⟨_, _, ⟨pl3, sd3, ps ++ [⟨n8 + 1, nO⟩], by omega, by omega, hs3, by simp; omega, rfl, rfl⟩, ?_⟩)
            all_goals rw [List.length_append]
            all_goals (refine Weak.cov ?_ ?_ ?_)
            all_goals first | (refine ⟨trivial, rfl, rfl, rfl, rfl, rfl, Option.some.inj (hap ps ⟨n8 + 1, nO⟩), trivial⟩) | (focus ((repeat' (first | exact trivial | with_reducible rfl | (refine ⟨?_, ?_⟩) | rfl)); done)) | rfl
          · rintro e h ⟨pl3, sd3, qs, hl5, hl6, hs3, hqs, rfl, rfl⟩
            have hpq := hst0 qs
            (conv => whnf)
            (repeat (first | ((with_reducible apply ApW.id); (refine ApW.at (by simp only [List.length_cons, List.length_nil]; show _ ≤ 9223372036854775807; omega) (by simp only [List.length_cons, List.length_nil]; show _ * 16 ≤ 140737488355328; omega) ?_; (conv => whnf))) | ((fail_if_success (with_reducible apply RegD.id)); (fail_if_success (with_reducible apply ApW.id)); (refine stg_ ?_))))
            refine ⟨_, _, .inr ⟨mi, de, ma, qs ++ [⟨16384, 16384⟩], by simp; omega, rfl, rfl⟩, ?_, pl3, sd3, _, by omega, by omega, hs3, rfl⟩
            refine ⟨⟨[some 6], ⟨by decide, hap qs ⟨16384, 16384⟩, trivial, trivial⟩, by decide, ⟨rfl, ?_⟩⟩⟩
            rw [List.length_append]
            (repeat' (first | ((conv => whnf); done) | ((conv => whnf); (first | (exact ⟨by decide, rfl⟩) | (exact ⟨rfl, rfl⟩) | (refine ⟨_, _, rfl, ?_, ?_⟩) | (refine ⟨_, rfl, ?_⟩) | rfl))))
    · (conv => whnf)
      (repeat ((fail_if_success (with_reducible apply RegD.id)); (refine stg_ ?_)))
      refine ⟨_, _, .inl ⟨mi, de, ma, rfl, rfl⟩, ?_, pl1, sd1, _, by omega, by omega, hs1, rfl⟩
      refine ⟨⟨[], trivial, by decide, ⟨rfl, ?_⟩⟩⟩
      (repeat' (first | ((conv => whnf); done) | ((conv => whnf); (first | (exact ⟨by decide, rfl⟩) | (exact ⟨rfl, rfl⟩) | (refine ⟨_, _, rfl, ?_, ?_⟩) | (refine ⟨_, rfl, ?_⟩) | rfl))))
def AxQ (v : V) (bs : List Blk) : Prop := (∃ a : TAxis, axB a = true ∧ a.fMap = [] ∧ v = .st [.d (.str a.fName), .d (.int .i64 a.fMin), .d (.int .i64 a.fDefault), .d (.int .i64 a.fMax), .nils] ∧ bs = []) ∨
  ∃ a : TAxis, axB a = true ∧ v = .st [.d (.str a.fName), .d (.int .i64 a.fMin), .d (.int .i64 a.fDefault), .d (.int .i64 a.fMax), .own 1 0 a.fMap.length] ∧ bs = [.arr 2 (a.fMap.map TAxisPoint.D) true]
set_option maxHeartbeats 4000000 in
theorem A2Axis_x (code : List UInt8) : PX Tryd.prog 11 [.d (.lst (code.map bD))] AxQ := by
  refine px_intro ttOk (by kernel_rfl) Tryd.func11 rfl (by kernel_rfl) (by kernel_rfl) (by kernel_rfl) (fun hw => ?_)
  obtain ⟨nm, hnm⟩ : ∃ nm : ByteArray, nm = ⟨#[119, 103, 104, 116]⟩ := ⟨_, rfl⟩
  have cz := l29Draw_z code nm
  rw [hnm] at cz
  have hL : ∀ ps : List TAxisPoint, (ps.map TAxisPoint.D).length = ps.length := fun ps => List.length_map _
  (conv => whnf)
  (repeat (refine stg_ ?_))
  (refine CallW.inl ttOk (by kernel_rfl) Tryd.func26 rfl (by kernel_rfl) (by kernel_rfl) (by rfl) (fun s => ?_); (conv => whnf))
  (repeat (refine stg_ ?_))
  (refine And.intro rfl ?_; (conv => whnf))
  (repeat (refine stg_ ?_))
  (refine clz0_ cz (by omega) ?_; rintro v bs pl1 sd1 (⟨mi, de, ma, rfl, rfl⟩ | ⟨mi, de, ma, ps, hps, rfl, rfl⟩) hl1 hl2 hs1 <;> refine ⟨rfl, ?_⟩ <;> (conv => whnf))
  · have c1 := l29Axis_v ⟨⟨#[119, 103, 104, 116]⟩, mi, de, ma, []⟩
    cases hB : axB ⟨⟨#[119, 103, 104, 116]⟩, mi, de, ma, []⟩ <;> rw [hB] at c1
    · (repeat' (first | (refine stg_ ?_) | (refine cla_ (c1) ?_) | (refine br_ (fun hbr => ?_) (fun hbr => ?_))))
      refine ⟨_, _, .inl ⟨⟨⟨#[119, 103, 104, 116]⟩, 0, 1, 5, []⟩, by decide, rfl, rfl, rfl⟩, ?_⟩
      refine ⟨⟨[], trivial, by decide, ⟨rfl, ?_⟩⟩⟩
      (repeat' (first | ((conv => whnf); done) | ((conv => whnf); (first | (exact ⟨by decide, rfl⟩) | (exact ⟨rfl, rfl⟩) | (refine ⟨_, _, rfl, ?_, ?_⟩) | (refine ⟨_, rfl, ?_⟩) | rfl))))
    · (repeat' (first | (refine stg_ ?_) | (refine cla_ (c1) ?_) | (refine br_ (fun hbr => ?_) (fun hbr => ?_))))
      refine ⟨_, _, .inl ⟨_, hB, rfl, rfl, rfl⟩, ?_⟩
      refine ⟨⟨[], trivial, by decide, ⟨rfl, ?_⟩⟩⟩
      (repeat' (first | ((conv => whnf); done) | ((conv => whnf); (first | (exact ⟨by decide, rfl⟩) | (exact ⟨rfl, rfl⟩) | (refine ⟨_, _, rfl, ?_, ?_⟩) | (refine ⟨_, rfl, ?_⟩) | rfl))))
  · have c1 := l29Axis_v ⟨⟨#[119, 103, 104, 116]⟩, mi, de, ma, ps⟩
    have hL1 := hL ps
    cases hB : axB ⟨⟨#[119, 103, 104, 116]⟩, mi, de, ma, ps⟩ <;> rw [hB] at c1
    · (repeat' (first | (refine stg_ ?_) | (refine cla_ (c1) ?_) | (refine br_ (fun hbr => ?_) (fun hbr => ?_))))
      refine ⟨_, _, .inl ⟨⟨⟨#[119, 103, 104, 116]⟩, 0, 1, 5, []⟩, by decide, rfl, rfl, rfl⟩, ?_⟩
      refine ⟨⟨[], trivial, by decide, ⟨rfl, ?_⟩⟩⟩
      (repeat' (first | ((conv => whnf); done) | ((conv => whnf); (first | (exact ⟨by decide, rfl⟩) | (exact ⟨rfl, rfl⟩) | (refine ⟨_, _, rfl, ?_, ?_⟩) | (refine ⟨_, rfl, ?_⟩) | rfl))))
    · (repeat' (first | (refine stg_ ?_) | (refine cla_ (c1) ?_) | (refine br_ (fun hbr => ?_) (fun hbr => ?_))))
      refine ⟨_, _, .inr ⟨_, hB, rfl, rfl⟩, ?_⟩
      first
        | (refine ⟨⟨[some 4], ⟨by decide, rfl, trivial, trivial⟩, by decide, ⟨rfl, ?_⟩⟩⟩; (repeat' (first | ((conv => whnf); done) | ((conv => whnf); (first | (exact ⟨by decide, rfl⟩) | (exact ⟨rfl, rfl⟩) | (refine ⟨_, _, rfl, ?_, ?_⟩) | (refine ⟨_, rfl, ?_⟩) | rfl)))); done)
        | (refine ⟨⟨[some 5], ⟨by decide, rfl, trivial, trivial⟩, by decide, ⟨rfl, ?_⟩⟩⟩; (repeat' (first | ((conv => whnf); done) | ((conv => whnf); (first | (exact ⟨by decide, rfl⟩) | (exact ⟨rfl, rfl⟩) | (refine ⟨_, _, rfl, ?_, ?_⟩) | (refine ⟨_, rfl, ?_⟩) | rfl)))); done)
        | (refine ⟨⟨[some 6], ⟨by decide, rfl, trivial, trivial⟩, by decide, ⟨rfl, ?_⟩⟩⟩; (repeat' (first | ((conv => whnf); done) | ((conv => whnf); (first | (exact ⟨by decide, rfl⟩) | (exact ⟨rfl, rfl⟩) | (refine ⟨_, _, rfl, ?_, ?_⟩) | (refine ⟨_, rfl, ?_⟩) | rfl)))); done)
theorem bs_ext {a b : ByteArray} (h : a.data.toList = b.data.toList) : a = b := ByteArray.ext (Array.toList_inj.mp h)
theorem bs_app (a b : ByteArray) : (a ++ b).data.toList = a.data.toList ++ b.data.toList := by simp
def jn (xs : List ByteArray) : ByteArray := mkS (Lib.join (xs.map (·.data.toList)) [32])
theorem join_v (xs : List ByteArray) (hN : xs.length ≤ 140737488355328) (hlen : (jn xs).size ≤ 140737488355328) : PC Tryd.prog 33 [.d (.lst (xs.map D.str)), .d (.str ⟨#[32]⟩)] (.d (.str (jn xs))) [] := by
  refine PC.of Tryd.func33 rfl rfl ?_
  rintro w X args ⟨c1, cs, rfl, h1, c2, cs2, rfl, h2, rfl⟩
  obtain ⟨a, cap, n, rfl, k1, k2, k3, k4⟩ := rep_lst.1 h1
  obtain ⟨rfl, h3⟩ := rep_str.1 h2
  rw [List.length_map] at k1 ⊢
  have hs : (jn xs).size ≤ maxLen := by unfold maxLen; omega
  by_cases h0 : xs = []
  · subst h0
    exact (Tryd.strings_Join_none a cap ⟨#[32]⟩ w).mono fun e w' ⟨r1, r2⟩ => ⟨_, r1, by rw [r2]; exact Ext.refl w, rep_str.2 ⟨rfl, hs⟩⟩
  · obtain ⟨b, o, rfl, hb, hc⟩ := str_cells k4 h0
    exact (Tryd.strings_Join b o cap xs ⟨#[32]⟩ w hc hb hN k1 (by rw [jn, mkS_size] at hlen; exact hlen)).mono fun e w' ⟨r1, r2⟩ => ⟨_, r1, r2, rep_str.2 ⟨rfl, hs⟩⟩
def ptB (p : TAxisPoint) : ByteArray := decB p.fFrom ++ ⟨#[58]⟩ ++ decB p.fTo
def wordsB (a : TAxis) : List ByteArray := [a.fName, decB a.fMin, decB a.fDefault, decB a.fMax] ++ a.fMap.map ptB
def textB (a : TAxis) : ByteArray := jn (wordsB a)
theorem sz32 : ByteArray.size ⟨#[32]⟩ = 1 := rfl
theorem sz58 : ByteArray.size ⟨#[58]⟩ = 1 := rfl
theorem lens_le {m : Nat} : ∀ (xs : List ByteArray), (∀ x ∈ xs, x.size ≤ m) → Lib.lens (xs.map (·.data.toList)) ≤ xs.length * m
  | [], _ => by simp [Lib.lens]
  | x :: t, h => by
    have := lens_le t (fun y hy => h y (by simp [hy]))
    have h1 : x.data.toList.length ≤ m := h x (by simp)
    simp only [Lib.lens, List.map_cons, List.sum_cons, List.length_cons, Nat.succ_mul] at this ⊢
    omega
theorem jn_size {m : Nat} {xs : List ByteArray} (h : ∀ x ∈ xs, x.size ≤ m) : (jn xs).size ≤ xs.length * (m + 1) := by
  cases xs with
  | nil => simp [jn, mkS_size, Lib.join]
  | cons x t =>
    have h2 := lens_le t (fun y hy => h y (by simp [hy]))
    have h1 : x.data.toList.length ≤ m := h x (by simp)
    rw [jn, mkS_size, List.map_cons, Lib.join_cons, List.length_append, Lib.joinTail_length, List.length_map, List.length_cons]
    simp only [List.length_cons, List.length_nil, Nat.zero_add, Nat.one_mul, Nat.add_mul, Nat.mul_add, Nat.mul_one]
    omega
theorem ax_sizes {a : TAxis} (h : axB a = true) : a.fName.size ≤ 12 ∧ a.fMap.length ≤ 6 := by
  simp only [axB, inB, Bool.and_eq_true, decide_eq_true_eq] at h
  refine ⟨?_, ?_⟩
  · have := h.1.1.1.1
    simp only [nameB, Bool.and_eq_true, decide_eq_true_eq] at this
    exact this.1
  · have := h.2
    cases hm : a.fMap with
    | nil => simp
    | cons x t =>
      rw [hm] at this
      simp only [mapB, List.isEmpty_cons, Bool.false_or, Bool.and_eq_true, decide_eq_true_eq] at this
      exact this.2
theorem decB_sz {n : Int} (h1 : -9223372036854775808 ≤ n) (h2 : n ≤ 9223372036854775807) : (decB n).size ≤ 21 := decB_size n (natAbs_bnd h1 h2)
theorem pt_in {a : TAxis} (h : axB a = true) {k : Nat} {p : TAxisPoint} (hp : a.fMap[k]? = some p) : (decB p.fFrom).size ≤ 21 ∧ (decB p.fTo).size ≤ 21 := by
  have := mp_ap _ _ (mapB_mp (axB_facts h).2.2.2.2.2) k p hp
  simp only [apB, nrm, Bool.and_eq_true, decide_eq_true_eq] at this
  exact ⟨decB_sz (by omega) (by omega), decB_sz (by omega) (by omega)⟩
theorem words_sz {a : TAxis} (h : axB a = true) : ∀ x ∈ wordsB a, x.size ≤ 43 := by
  obtain ⟨f1, f2, f3, f4, f5, -⟩ := axB_facts h
  have := ax_sizes h
  have d1 := decB_sz (n := a.fMin) (by omega) (by omega)
  have d2 := decB_sz (n := a.fDefault) (by omega) (by omega)
  have d3 := decB_sz (n := a.fMax) (by omega) (by omega)
  intro x hx
  simp only [wordsB, List.mem_append, List.mem_cons, List.not_mem_nil, or_false, List.mem_map] at hx
  rcases hx with (rfl | rfl | rfl | rfl) | ⟨p, hp, rfl⟩ <;> first | omega | skip
  obtain ⟨k, hk⟩ := List.getElem?_of_mem hp
  have := pt_in h hk
  rw [ptB, ByteArray.size_append, ByteArray.size_append, sz58]
  omega
theorem words_len (a : TAxis) : (wordsB a).length = 4 + a.fMap.length := by simp [wordsB]; omega
theorem words_at {a : TAxis} {k : Nat} {p : TAxisPoint} (hp : a.fMap[k]? = some p) : (wordsB a).take (4 + (k + 1)) = (wordsB a).take (4 + k) ++ [ptB p] := by
  have : (wordsB a)[4 + k]? = some (ptB p) := by
    rw [wordsB, List.getElem?_append_right (by simp)]
    simp [hp]
  exact take_snoc_get this
theorem words_4 (a : TAxis) : (wordsB a).take 4 = [a.fName, decB a.fMin, decB a.fDefault, decB a.fMax] := by simp [wordsB]
theorem take_sz {a : TAxis} (h : axB a = true) (k : Nat) : (jn ((wordsB a).take (4 + k))).size ≤ 1000 := by
  have h1 := jn_size (m := 43) (xs := (wordsB a).take (4 + k)) (fun x hx => words_sz h x (List.mem_of_mem_take hx))
  have h2 := ax_sizes h
  have h3 := words_len a
  rw [List.length_take] at h1
  have : min (4 + k) (wordsB a).length ≤ 10 := by omega
  have := Nat.mul_le_mul_right (43 + 1) this
  omega
set_option maxHeartbeats 2000000 in
theorem AxisText_v (a : TAxis) : PC Tryd.prog 16 [.d a.D] (.d (.str (if axB a = true then textB a else .empty))) [] := by
  refine pc_intro ttOk (by kernel_rfl) Tryd.func16 rfl (by kernel_rfl) (by kernel_rfl) (by kernel_rfl) (fun hw => ?_)
  have hL : (a.fMap.map TAxisPoint.D).length = a.fMap.length := List.length_map _
  cases hA : axB a
  · (conv => whnf)
    (repeat' (first | (refine stg_ ?_) | (refine cla_ (ValidAxis_v a) ?_) | (refine br_ (fun hbr => ?_) (fun hbr => ?_))))
    all_goals first | (exfalso; simp_all; done) | ((refine RetOK.d rfl rfl ?_; conv => whnf); (try simp); (try rfl))
  · have hm : (a.fMap.map TAxisPoint.D).length ≤ 9223372036854775807 := hw.1.2.2.2.2.1.1
    obtain ⟨s1, s2⟩ := ax_sizes hA
    (conv => whnf)
    (repeat' (first | (refine stg_ ?_) | (refine cla_ (ValidAxis_v a) ?_) | (refine cl_ (Decimal_v _) ?_) | (refine br_ (fun hbr => ?_) (fun hbr => ?_))))
    all_goals first | (exfalso; simp_all; done) | skip
    refine LoopW.go (α := Nat) (fun k => [(1, .pB 1 [] 0), (3, .own 2 0 (4 + k)), (22, .d (.lst (a.fMap.map TAxisPoint.D))), (23, .d (.int .i64 (a.fMap.map TAxisPoint.D).length)), (24, .d (.int .i64 k))]) (fun k => [.gone, .box (.d a.D), .arr 1 (((wordsB a).take (4 + k)).map D.str) true]) (fun k => k ≤ a.fMap.length) (fun k => a.fMap.length - k) 0 (Weak.cov ⟨rfl, rfl, rfl, rfl, rfl, trivial⟩ ⟨trivial, rfl, by rw [Nat.add_zero, words_4]; rfl, trivial⟩ rfl) (by omega) (fun k hk => ?_)
    have hW : (((wordsB a).take (4 + k)).map D.str).length = 4 + k := by rw [List.length_map, List.length_take, words_len]; omega
    (conv => whnf)
    (refine br_ (fun h2 => ?_) (fun h2 => ?_) <;> (repeat (refine stg_ ?_)))
    · obtain ⟨p, hx⟩ := at_lt' (xs := a.fMap) (k := k) (by omega)
      obtain ⟨q1, q2⟩ := pt_in hA hx
      (repeat' (first | (refine stg_ ?_) | (refine cl_ (Decimal_v _) ?_) | (refine CatW.at (by show _ ≤ 9223372036854775807; simp only [ByteArray.size_append, sz32, sz58]; omega) ?_; conv => whnf) | (refine br_ (fun hbr => ?_) (fun hbr => ?_))))
      refine NextW.go (k + 1) (Weak.cov ⟨rfl, rfl, rfl, rfl, rfl, trivial⟩ ⟨trivial, rfl, ?_, trivial⟩ rfl) (by omega) (by omega)
      show Blk.arr 1 _ true = Blk.arr 1 _ true
      rw [List.take_of_length_le (Nat.le_of_eq hW), words_at hx, List.map_append]
      rfl
    · have hk2 : k = a.fMap.length := by omega
      subst hk2
      have hT : (wordsB a).take (4 + a.fMap.length) = wordsB a := List.take_of_length_le (by rw [words_len]; omega)
      have hW2 : ((wordsB a).map D.str).length = 4 + a.fMap.length := by rw [List.length_map, words_len]
      have t0 := take_sz hA a.fMap.length
      rw [hT] at t0 ⊢
      (repeat' (first | (refine stg_ ?_) | (refine cla_ (join_v (wordsB a) (by rw [words_len]; omega) (by omega)) ?_) | (refine br_ (fun hbr => ?_) (fun hbr => ?_))))
      (refine RetOK.d rfl rfl ?_; conv => whnf)
      rfl
def spL (c : UInt8) : List UInt8 → List (List UInt8)
  | [] => [[]]
  | x :: t => if x = c then [] :: spL c t else match spL c t with
    | p :: r => (x :: p) :: r
    | [] => [[x]]
theorem spL_ne (c : UInt8) : ∀ l, spL c l ≠ []
  | [] => by simp [spL]
  | x :: t => by
    rw [spL]
    split
    · simp
    · split <;> simp
theorem spL_none {c : UInt8} : ∀ {l : List UInt8}, c ∉ l → spL c l = [l]
  | [], _ => rfl
  | x :: t, h => by
    simp only [List.mem_cons, not_or] at h
    rw [spL, if_neg (fun e => h.1 e.symm), spL_none h.2]
theorem spL_at {c : UInt8} (b : List UInt8) : ∀ {a : List UInt8}, c ∉ a → spL c (a ++ c :: b) = a :: spL c b
  | [], _ => by rw [List.nil_append, spL, if_pos rfl]
  | x :: t, h => by
    simp only [List.mem_cons, not_or] at h
    rw [List.cons_append, spL, if_neg (fun e => h.1 e.symm), spL_at b h.2]
theorem spL_len (c : UInt8) : ∀ l, (spL c l).length = l.count c + 1
  | [] => rfl
  | x :: t => by
    have ih := spL_len c t
    rw [spL]
    split
    · rename_i h
      subst h
      rw [List.count_cons_self, List.length_cons, ih]
    · rename_i h
      rw [List.count_cons_of_ne h]
      split
      · rename_i p r e
        rw [e] at ih
        exact ih
      · rename_i e
        exact absurd e (spL_ne c t)
theorem join_cons (w : List UInt8) {ws : List (List UInt8)} (sep : List UInt8) (h : ws ≠ []) : Lib.join (w :: ws) sep = w ++ (sep ++ Lib.join ws sep) := by
  cases ws with
  | nil => exact absurd rfl h
  | cons x t => simp [Lib.join]
theorem join_spL (c : UInt8) : ∀ l, Lib.join (spL c l) [c] = l
  | [] => rfl
  | x :: t => by
    have ih := join_spL c t
    rw [spL]
    split
    · rename_i h
      subst h
      rw [join_cons _ _ (spL_ne x t), ih]; rfl
    · split
      · rename_i p r e
        rw [e] at ih
        cases r with
        | nil =>
          have e1 : Lib.join [p] [c] = p := by simp [Lib.join]
          have e2 : Lib.join [x :: p] [c] = x :: p := by simp [Lib.join]
          rw [e2, ← ih, e1]
        | cons q r =>
          rw [join_cons _ _ (by simp)] at ih ⊢
          rw [List.cons_append, ih]
      · rename_i e
        exact absurd e (spL_ne c t)
theorem spL_join {c : UInt8} : ∀ {ws : List (List UInt8)}, ws ≠ [] → (∀ w ∈ ws, c ∉ w) → spL c (Lib.join ws [c]) = ws
  | [], h, _ => absurd rfl h
  | [w], _, h => by
    have e1 : Lib.join [w] [c] = w := by simp [Lib.join]
    rw [e1, spL_none (h w (by simp))]
  | w :: x :: t, _, h => by
    rw [join_cons _ _ (by simp), List.singleton_append, spL_at _ (h w (by simp)), spL_join (by simp) (fun y hy => h y (by simp [hy]))]
theorem spL_le (c : UInt8) : ∀ l, ∀ w ∈ spL c l, w.length ≤ l.length
  | [], w, h => by simp [spL] at h; simp [h]
  | x :: t, w, h => by
    rw [spL] at h
    split at h
    · rcases List.mem_cons.1 h with rfl | h
      · simp
      · have := spL_le c t w h
        rw [List.length_cons]; omega
    · split at h
      · rename_i p r e
        rcases List.mem_cons.1 h with rfl | h
        · have := spL_le c t p (by rw [e]; simp)
          simp only [List.length_cons]; omega
        · have := spL_le c t w (by rw [e]; simp [h])
          rw [List.length_cons]; omega
      · rename_i e
        exact absurd e (spL_ne c t)
theorem idx_cases (c : UInt8) : ∀ l : List UInt8, (Lib.indexByte l c = -1 ∧ c ∉ l) ∨ ∃ a b, l = a ++ c :: b ∧ c ∉ a ∧ Lib.indexByte l c = (a.length : Nat)
  | [] => .inl ⟨rfl, by simp⟩
  | x :: t => by
    by_cases hx : x = c
    · subst hx
      exact .inr ⟨[], t, rfl, by simp, by simp [Lib.indexByte]⟩
    · have hne : (x == c) = false := by simpa using hx
      rcases idx_cases c t with ⟨h1, h2⟩ | ⟨a, b, rfl, h2, h3⟩
      · refine .inl ⟨by simp [Lib.indexByte, hne, h1], ?_⟩
        simp only [List.mem_cons, not_or]
        exact ⟨fun e => hx e.symm, h2⟩
      · refine .inr ⟨x :: a, b, rfl, ?_, ?_⟩
        · simp only [List.mem_cons, not_or]
          exact ⟨fun e => hx e.symm, h2⟩
        · have : ¬ ((a.length : Nat) : Int) = -1 := by omega
          simp [Lib.indexByte, hne, h3, this]
def dgtB (c : UInt8) : Bool := decide (48 ≤ c.toNat) && decide (c.toNat ≤ 57)
def dgV : List UInt8 → Nat → Option Nat
  | [], n => some n
  | c :: t, n => if dgtB c = true then dgV t (n * 10 + (c.toNat - 48)) else none
def tlN (l : List UInt8) : List UInt8 := if l[0]? = some 45 then l.drop 1 else l
def sgN (l : List UInt8) (n : Nat) : Int := if l[0]? = some 45 then -(n : Int) else n
def rdN (l : List UInt8) : Option Int :=
  if (tlN l).length < 1 ∨ 18 < (tlN l).length then none else
  match dgV (tlN l) 0 with
  | none => none
  | some n => if decS (sgN l n) = l then some (sgN l n) else none
theorem rdN_dec {l : List UInt8} {n : Int} (h : rdN l = some n) : decS n = l := by
  unfold rdN at h
  split at h
  · cases h
  · split at h
    · cases h
    · split at h
      · rename_i e
        cases h
        exact e
      · cases h
theorem dgV_lt : ∀ (l : List UInt8) (n m : Nat), dgV l n = some m → m < (n + 1) * 10 ^ l.length
  | [], n, m, h => by cases h; simp
  | c :: t, n, m, h => by
    rw [dgV] at h
    split at h
    · rename_i hc
      have := dgV_lt t _ m h
      simp only [dgtB, Bool.and_eq_true, decide_eq_true_eq] at hc
      have h2 : (n * 10 + (c.toNat - 48) + 1) * 10 ^ t.length ≤ (n + 1) * 10 * 10 ^ t.length := Nat.mul_le_mul_right _ (by omega)
      rw [List.length_cons, Nat.pow_succ, Nat.mul_comm (10 ^ t.length) 10, ← Nat.mul_assoc]
      omega
    · cases h
theorem dgV_app : ∀ (a b : List UInt8) (n : Nat), dgV (a ++ b) n = (dgV a n).bind (dgV b)
  | [], b, n => rfl
  | c :: t, b, n => by
    rw [List.cons_append, dgV, dgV]
    split
    · exact dgV_app t b _
    · rfl
theorem dgV_dec : ∀ u : Nat, dgV (decL u) 0 = some u := by
  intro u
  induction u using Nat.strongRecOn with
  | ind u ih =>
    have hd : ∀ d, d < 10 → dgtB (dgC d) = true ∧ (dgC d).toNat - 48 = d := fun d hd => by
      have := dgC_toNat hd
      constructor
      · simp only [dgtB, Bool.and_eq_true, decide_eq_true_eq]; omega
      · omega
    by_cases hu : u < 10
    · rw [decL_lo hu, dgV, if_pos (hd u hu).1, dgV, (hd u hu).2]; simp
    · have h1 := hd (u % 10) (by omega)
      rw [decL_hi hu, dgV_app, ih (u / 10) (by omega)]
      show dgV [dgC (u % 10)] (u / 10) = some u
      rw [dgV, if_pos h1.1, dgV, h1.2]
      congr 1; omega
theorem decL_dg : ∀ u : Nat, ∀ c ∈ decL u, dgtB c = true := by
  intro u
  induction u using Nat.strongRecOn with
  | ind u ih =>
    have hd : ∀ d, d < 10 → dgtB (dgC d) = true := fun d hd => by
      have := dgC_toNat hd
      simp only [dgtB, Bool.and_eq_true, decide_eq_true_eq]; omega
    intro c hc
    by_cases hu : u < 10
    · rw [decL_lo hu] at hc
      obtain rfl : c = _ := by simpa using hc
      exact hd u hu
    · rw [decL_hi hu] at hc
      rcases List.mem_append.1 hc with hc | hc
      · exact ih (u / 10) (by omega) c hc
      · obtain rfl : c = _ := by simpa using hc
        exact hd _ (by omega)
theorem decL_head (u : Nat) : (decL u)[0]? ≠ some 45 := fun h => by
  have := decL_dg u 45 (List.mem_of_getElem? h)
  revert this
  decide
theorem rdN_of {n : Int} (h : n.natAbs < 10 ^ 18) : rdN (decS n) = some n := by
  have hl := decL_len 17 n.natAbs h
  have hp := decL_pos n.natAbs
  by_cases hn : n < 0
  · have e : decS n = 45 :: decL n.natAbs := by rw [decS, if_pos hn]; rfl
    have e1 : tlN (decS n) = decL n.natAbs := by rw [tlN, e, if_pos (show (45 :: decL n.natAbs)[0]? = some 45 from rfl)]; rfl
    have e2 : sgN (decS n) n.natAbs = n := by rw [sgN, e, if_pos (show (45 :: decL n.natAbs)[0]? = some 45 from rfl)]; omega
    rw [rdN, e1, if_neg (by omega), dgV_dec]
    simp only [e2, if_pos]
  · have e : decS n = decL n.natAbs := by rw [decS, if_neg hn]; rfl
    have e1 : tlN (decS n) = decL n.natAbs := by rw [tlN, e, if_neg (decL_head _)]
    have e2 : sgN (decS n) n.natAbs = n := by rw [sgN, e, if_neg (decL_head _)]; omega
    rw [rdN, e1, if_neg (by omega), dgV_dec]
    simp only [e2, if_pos]
theorem decS_in {n : Int} {c : UInt8} (h : c ∈ decS n) : dgtB c = true ∨ c = 45 := by
  rw [decS] at h
  rcases List.mem_append.1 h with h | h
  · split at h
    · exact .inr (by simpa using h)
    · cases h
  · exact .inl (decL_dg _ c h)
def spB (c : UInt8) (s : ByteArray) : List ByteArray := (spL c s.data.toList).map mkS
theorem spB_len (c : UInt8) (s : ByteArray) : (spB c s).length = s.data.toList.count c + 1 := by rw [spB, List.length_map, spL_len]
theorem spB_le (c : UInt8) (s : ByteArray) : ∀ w ∈ spB c s, w.size ≤ s.size := fun w hw => by
  rw [spB, List.mem_map] at hw
  obtain ⟨l, h1, rfl⟩ := hw
  have := spL_le c _ l h1
  rw [mkS_size]
  exact Nat.le_trans this (Nat.le_of_eq Array.length_toList)
theorem spB_none {c : UInt8} {s : ByteArray} (h : c ∉ s.data.toList) : spB c s = [s] := by rw [spB, spL_none h, List.map_cons, mkS_of]; rfl
theorem spB_at {c : UInt8} {s : ByteArray} {a b : List UInt8} (e : s.data.toList = a ++ c :: b) (h : c ∉ a) : spB c s = mkS a :: spB c (mkS b) := by
  rw [spB, e, spL_at b h, List.map_cons, spB, mkS_toList]
theorem bx_take {s : ByteArray} {a b : List UInt8} (e : s.data.toList = a ++ b) : s.extract 0 a.length = mkS a := by
  apply bs_ext
  rw [ByteArray.data_extract, Array.toList_extract, mkS_toList, e]
  simp
theorem bx_drop {s : ByteArray} {a b : List UInt8} {k : Nat} (e : s.data.toList = a ++ b) (hk : k = a.length) : s.extract k s.size = mkS b := by
  subst hk
  have hl : s.size = a.length + b.length := by
    have := congrArg List.length e
    rw [List.length_append] at this
    rw [← this]; exact Array.length_toList.symm
  apply bs_ext
  rw [ByteArray.data_extract, Array.toList_extract, mkS_toList, e, hl]
  simp
theorem Index_v (s sp : ByteArray) (c : UInt8) (hsp : sp = ⟨#[c]⟩) (hs : s.size ≤ 1048576) : PC Tryd.prog 55 [.d (.str s), .d (.str sp)] (.d (.int .i64 (Lib.indexByte s.data.toList c))) [] := by
  subst hsp
  refine PC.of Tryd.func55 rfl rfl ?_
  rintro w X args ⟨c1, cs, rfl, h1, c2, cs2, rfl, h2, rfl⟩
  obtain ⟨rfl, h3⟩ := rep_str.1 h1
  obtain ⟨rfl, h4⟩ := rep_str.1 h2
  refine (Tryd.strings_Index_one s c w).mono fun e w' ⟨r1, r2⟩ => ⟨_, r1, by rw [r2]; exact Ext.refl w, rep_int.2 ⟨rfl, ?_⟩⟩
  have e1 : IntKind.i64.min = -9223372036854775808 := rfl
  have e2 : IntKind.i64.max = 9223372036854775807 := rfl
  have hl : s.data.toList.length = s.size := Array.length_toList
  rcases idx_cases c s.data.toList with ⟨h5, _⟩ | ⟨a, b, e, _, h5⟩
  · rw [h5]; unfold inR; omega
  · have := congrArg List.length e
    rw [List.length_append, hl] at this
    rw [h5]; unfold inR; omega
theorem Count_v (s sp : ByteArray) (c : UInt8) (hsp : sp = ⟨#[c]⟩) (hs : s.size ≤ 1048576) : PC Tryd.prog 54 [.d (.str s), .d (.str sp)] (.d (.int .i64 (s.data.toList.count c : Nat))) [] := by
  subst hsp
  refine PC.of Tryd.func54 rfl rfl ?_
  rintro w X args ⟨c1, cs, rfl, h1, c2, cs2, rfl, h2, rfl⟩
  obtain ⟨rfl, h3⟩ := rep_str.1 h1
  obtain ⟨rfl, h4⟩ := rep_str.1 h2
  refine (Tryd.strings_Count_one s c w).mono fun e w' ⟨r1, r2⟩ => ⟨_, r1, by rw [r2]; exact Ext.refl w, rep_int.2 ⟨rfl, ?_⟩⟩
  have e1 : IntKind.i64.min = -9223372036854775808 := rfl
  have e2 : IntKind.i64.max = 9223372036854775807 := rfl
  have hl : s.data.toList.length = s.size := Array.length_toList
  have := List.count_le_length (a := c) (l := s.data.toList)
  unfold inR; omega
theorem row_set {ps : List ByteArray} {k : Nat} {x : ByteArray} (hx : ps[k]? = some x) : ((ps.take k ++ List.replicate (ps.length - k) ByteArray.empty).map D.str).set k (.str x) = (ps.take (k + 1) ++ List.replicate (ps.length - (k + 1)) ByteArray.empty).map D.str := by
  have hk := (List.getElem?_eq_some_iff.1 hx).1
  have hl : (ps.take k).length = k := by rw [List.length_take]; omega
  rw [← List.map_set, List.set_append_right _ _ (by omega), hl, Nat.sub_self, show ps.length - k = (ps.length - (k + 1)) + 1 by omega, List.replicate_succ, List.set_cons_zero, take_snoc_get hx, List.append_assoc, List.singleton_append]
set_option maxHeartbeats 4000000 in
theorem genSplit_v (s sp : ByteArray) (c : UInt8) (hsp : sp = ⟨#[c]⟩) (hs : s.size ≤ 1048576) (hp1 : sp.size = 1) (hp2 : (sp.toList == (ByteArray.mk #[]).toList) = false) : PC Tryd.prog 36 [.d (.str s), .d (.str sp), .d (.int .i64 0), .d (.int .i64 (-1))] (.own 1 0 (spB c s).length) [.arr 1 ((spB c s).map D.str) true] := by
  refine pc_intro ttOk (by kernel_rfl) Tryd.func36 rfl (by kernel_rfl) (by kernel_rfl) (by kernel_rfl) (fun hw => ?_)
  have c1 := Count_v s sp c hsp hs
  have hl : s.data.toList.length = s.size := Array.length_toList
  have hcl := List.count_le_length (a := c) (l := s.data.toList)
  have hn := spB_len c s
  have hn1 : (spB c s).length ≤ 1048577 := by omega
  (conv => whnf)
  rw [hp2]
  (repeat' (first | (refine stg_ ?_) | (refine cla_ (c1) ?_) | (refine br_ (fun hbr => ?_) (fun hbr => ?_))))
  all_goals try (exfalso; omega)
  obtain ⟨ps, hps⟩ : ∃ ps, ps = spB c s := ⟨_, rfl⟩
  rw [← hps] at hn hn1 ⊢
  rw [show min (((s.data.toList.count c : Nat) : Int) + 1) ((s.size : Nat) + 1) = ((ps.length : Nat) : Int) by omega]
  refine MkW.at (by omega) (by omega) (by show ((16 : Nat) : Int) * _ ≤ _; omega) ?_
  (conv => whnf)
  (repeat (refine stg_ ?_))
  refine LoopW.go (α := Nat × ByteArray) (fun p => [(0, .d (.str p.2)), (1, .d (.str sp)), (2, .d (.int .i64 0)), (3, .d (.int .i64 ((ps.length : Nat) - 1 : Int))), (9, .own 1 0 ps.length), (10, .d (.int .i64 p.1))]) (fun p => [.gone, .arr 1 ((ps.take p.1 ++ List.replicate (ps.length - p.1) ByteArray.empty).map D.str) true])
    (fun p => p.1 < ps.length ∧ spB c p.2 = ps.drop p.1 ∧ p.2.size ≤ s.size) (fun p => ps.length - p.1) (0, s) (Weak.cov ⟨rfl, rfl, rfl, rfl, rfl, rfl, trivial⟩ ⟨trivial, ?_, trivial⟩ rfl) ⟨by dsimp only; omega, by dsimp only; rw [← hps]; rfl, Nat.le_refl _⟩ ?_
  · show _ = Blk.arr 1 _ true
    rw [List.take_zero, List.nil_append, Nat.sub_zero, List.map_replicate]; rfl
  rintro ⟨k, r⟩ ⟨k1, k2, k3⟩
  dsimp only at k1 k2 k3 ⊢
  have hrl : r.data.toList.length = r.size := Array.length_toList
  have hrc := spB_len c r
  rw [k2, List.length_drop] at hrc
  have c2 := Index_v r sp c hsp (by omega)
  have hL : ((ps.take k ++ List.replicate (ps.length - k) ByteArray.empty).map D.str).length = ps.length := by simp; omega
  (conv => whnf)
  (repeat (refine stg_ ?_))
  (refine br_ (fun h1 => ?_) (fun h1 => ?_))
  · rcases idx_cases c r.data.toList with ⟨_, hno⟩ | ⟨a, b, e, ha, hi⟩
    · exfalso
      have := List.count_eq_zero.2 hno
      omega
    · rw [hi] at c2
      have hkd := spB_at e ha
      rw [k2] at hkd
      obtain ⟨x, hx⟩ := at_lt' (xs := ps) (k := k) k1
      rw [drop_at hx] at hkd
      obtain ⟨rfl, hk2⟩ := List.cons.inj hkd
      have hlen := congrArg List.length e
      rw [List.length_append, List.length_cons, hrl] at hlen
      have he : ((ps.take k ++ List.replicate (ps.length - k) ByteArray.empty).map D.str)[k]? = some (.str ByteArray.empty) := by
        rw [List.getElem?_map, List.getElem?_append_right (by rw [List.length_take]; omega), List.length_take, Nat.min_eq_left (by omega), Nat.sub_self, List.getElem?_replicate, if_pos (by omega)]; rfl
      (repeat' (first | (refine stg_ ?_) | (refine cla_ (c2) ?_) | (refine br_ (fun hbr => ?_) (fun hbr => ?_))))
      all_goals try (exfalso; omega)
      have hx1 : r.extract 0 (((a.length : Nat) : Int) + 0).toNat = mkS a := by
        rw [show (((a.length : Nat) : Int) + 0).toNat = a.length by omega]; exact bx_take e
      have hx2 : r.extract (((a.length : Nat) : Int) + ((sp.size : Nat) : Int)).toNat r.size = mkS b := by
        refine bx_drop (a := a ++ [c]) (by rw [e]; simp) ?_
        rw [List.length_append, List.length_singleton]; omega
      refine NextW.go (k + 1, mkS b) (Weak.cov ⟨?_, rfl, rfl, rfl, rfl, rfl, trivial⟩ ⟨trivial, ?_, trivial⟩ rfl) ⟨by dsimp only; omega, by dsimp only; exact hk2.symm, by dsimp only; rw [mkS_size]; omega⟩ (by dsimp only; omega)
      · show V.d (D.str (r.extract (((a.length : Nat) : Int) + ((sp.size : Nat) : Int)).toNat r.size)) = _
        rw [hx2]
      · show _ = Blk.arr 1 _ true
        rw [← row_set hx, ← hx1]; rfl
  · obtain ⟨x, hx⟩ := at_lt' (xs := ps) (k := k) k1
    have hk : k + 1 = ps.length := by omega
    have hno : c ∉ r.data.toList := by
      intro hm
      have := List.count_pos_iff.2 hm
      omega
    have hr : r = x := by
      have h2 := spB_none hno
      rw [k2, drop_at hx] at h2
      exact (List.cons.inj h2).1.symm
    have he : ((ps.take k ++ List.replicate (ps.length - k) ByteArray.empty).map D.str)[k]? = some (.str ByteArray.empty) := by
      rw [List.getElem?_map, List.getElem?_append_right (by rw [List.length_take]; omega), List.length_take, Nat.min_eq_left (by omega), Nat.sub_self, List.getElem?_replicate, if_pos (by omega)]; rfl
    have hfin := row_set hx
    rw [hk, List.take_length, Nat.sub_self, List.replicate_zero, List.append_nil] at hfin
    rw [hr]
    (repeat' (first | (refine stg_ ?_) | fail | (refine br_ (fun hbr => ?_) (fun hbr => ?_))))
    rw [show ((k : Nat) : Int).toNat + 0 = k from rfl, hfin, ← hk]
    (refine ⟨⟨[some 1], ⟨by decide, rfl, trivial, trivial⟩, by decide, rfl, ?_⟩⟩; (conv => whnf); exact ⟨by decide, rfl⟩)
theorem Split_v (s sp : ByteArray) (c : UInt8) (hsp : sp = ⟨#[c]⟩) (hs : s.size ≤ 1048576) (hp1 : sp.size = 1) (hp2 : (sp.toList == (ByteArray.mk #[]).toList) = false) : PC Tryd.prog 20 [.d (.str s), .d (.str sp)] (.own 1 0 (spB c s).length) [.arr 1 ((spB c s).map D.str) true] := by
  refine pc_intro ttOk (by kernel_rfl) Tryd.func20 rfl (by kernel_rfl) (by kernel_rfl) (by kernel_rfl) (fun hw => ?_)
  have c1 := genSplit_v s sp c hsp hs hp1 hp2
  (conv => whnf)
  (repeat' (first | (refine stg_ ?_) | (refine cla_ (c1) ?_) | (refine br_ (fun hbr => ?_) (fun hbr => ?_))))
  all_goals (refine ⟨⟨[some 1], ⟨by decide, rfl, trivial, trivial⟩, by decide, rfl, ?_⟩⟩; (conv => whnf); exact ⟨by decide, rfl⟩)
theorem ext_data (s : ByteArray) (f i : Nat) : s.extract f i = mkS ((s.data.toList.drop f).take (i - f)) := by
  apply bs_ext
  rw [ByteArray.data_extract, Array.toList_extract, mkS_toList]
theorem bL' (s : ByteArray) (k : Nat) : s[k]? = s.data.toList[k]? := by
  rcases Nat.lt_or_ge k s.size with h | h
  · rw [bget? h, bgetN h]
  · rw [List.getElem?_eq_none (by simpa using h)]
    simp [h]
theorem bTl (s : ByteArray) : s.data.toList = s.toList := (Go.ByteArray.toList_eq s).symm
theorem rdN_no {l : List UInt8} (h : (tlN l).length < 1 ∨ 18 < (tlN l).length) : rdN l = none := by rw [rdN, if_pos h]
theorem rdN_bad {l : List UInt8} {k : Nat} {n : Nat} {c : UInt8} (h : dgV ((tlN l).take k) 0 = some n) (hc : (tlN l)[k]? = some c) (hd : dgtB c = false) : rdN l = none := by
  have e : dgV (tlN l) 0 = none := by
    rw [← List.take_append_drop k (tlN l), dgV_app, h, drop_at hc]
    show dgV (c :: _) n = none
    rw [dgV, if_neg (by rw [hd]; decide)]
  rw [rdN]
  split
  · rfl
  · rw [e]
theorem dgV_step {t : List UInt8} {k n : Nat} {c : UInt8} (h : dgV (t.take k) 0 = some n) (hc : t[k]? = some c) (hd : dgtB c = true) : dgV (t.take (k + 1)) 0 = some (n * 10 + (c.toNat - 48)) := by
  rw [take_snoc_get hc, dgV_app, h]
  show dgV [c] n = _
  rw [dgV, if_pos hd, dgV]
theorem rdN_end {l : List UInt8} {n : Nat} (h1 : 1 ≤ (tlN l).length) (h2 : (tlN l).length ≤ 18) (h : dgV (tlN l) 0 = some n) : rdN l = if decS (sgN l n) = l then some (sgN l n) else none := by
  rw [rdN, if_neg (by omega), h]
set_option maxHeartbeats 4000000 in
theorem CutPrefix_v (s pf : ByteArray) (hp1 : pf.size = 1) (hp2 : pf.toList = [45]) : PC Tryd.prog 56 [.d (.str s), .d (.str pf)] (.tup [.d (.str (mkS (tlN s.data.toList))), .d (.bool (decide (s.data.toList[0]? = some 45)))]) [] := by
  have c1 : PC Tryd.prog 79 [.d (.str s), .d (.str pf)] (.d (.bool (decide (s.data.toList[0]? = some 45)))) [] := by
    refine pc_intro ttOk (by kernel_rfl) Tryd.func79 rfl (by kernel_rfl) (by kernel_rfl) (by kernel_rfl) (fun hw => ?_)
    have hs : s.size ≤ 9223372036854775807 := hw.1
    have hl : s.data.toList.length = s.size := Array.length_toList
    have hpt : pf.data.toList = [45] := by rw [bTl]; exact hp2
    rcases hL : s.data.toList with _ | ⟨b, t⟩
    · have hs0 : s.size = 0 := by rw [← hl, hL]; rfl
      rw [show decide (([] : List UInt8)[0]? = some 45) = false by decide]
      (conv => whnf)
      rw [show decide (((pf.size : Nat) : Int) ≤ ((s.size : Nat) : Int)) = false by rw [decide_eq_false_iff_not]; omega]
      (conv => whnf)
      (repeat (refine stg_ ?_))
      (refine RetOK.d rfl rfl ?_; conv => whnf)
    · have hs1 : s.size = t.length + 1 := by rw [← hl, hL]; rfl
      have hx : (s.extract 0 1).toList = [b] := by
        rw [← bTl, ext_data, hL, mkS_toList]; rfl
      rw [show decide ((b :: t)[0]? = some 45) = (b == 45) by simp [Bool.beq_eq_decide_eq]]
      have hxx : ((s.extract 0 1).toList == pf.toList) = (b == 45) := by rw [hx, hp2]; simp
      (conv => whnf)
      rw [show decide (((pf.size : Nat) : Int) ≤ ((s.size : Nat) : Int)) = true by rw [decide_eq_true_eq]; omega, show (((pf.size : Nat) : Int)) = 1 by omega]
      (conv => whnf)
      (repeat (refine stg_ ?_))
      (refine RetOK.d rfl rfl ?_; conv => whnf)
      rw [Int.toNat_natCast, hp1, hxx]
  have c2 : PC Tryd.prog 70 [.d (.str s), .d (.str pf)] (.tup [.d (.str (mkS (tlN s.data.toList))), .d (.bool (decide (s.data.toList[0]? = some 45)))]) [] := by
    refine pc_intro ttOk (by kernel_rfl) Tryd.func70 rfl (by kernel_rfl) (by kernel_rfl) (by kernel_rfl) (fun hw => ?_)
    have hl : s.data.toList.length = s.size := Array.length_toList
    rcases hL : s.data.toList with _ | ⟨b, t⟩
    · rw [hL] at c1
      rw [show decide (([] : List UInt8)[0]? = some 45) = false by decide] at c1 ⊢
      have : s = mkS [] := by apply bs_ext; rw [hL, mkS_toList]
      (conv => whnf)
      (refine cla_ (c1) ?_)
      (repeat' (first | (refine stg_ ?_) | fail | (refine br_ (fun hbr => ?_) (fun hbr => ?_))))
      (refine RetOK.t rfl ?_; (repeat' ((conv => whnf); (first | done | (refine ⟨_, _, rfl, ⟨rfl, ?_⟩, ?_⟩) | fail))); (all_goals (conv => whnf)))
      all_goals (rw [this]; rfl)
    · have hs1 : s.size = t.length + 1 := by rw [← hl, hL]; rfl
      rw [hL] at c1
      by_cases hb : b = 45
      · subst hb
        have e1 : tlN (45 :: t) = t := by rw [tlN, if_pos (show (45 :: t)[0]? = some 45 from rfl)]; rfl
        have e2 : s.extract (((pf.size : Nat) : Int)).toNat s.size = mkS t := by
          rw [Int.toNat_natCast, hp1]
          exact bx_drop (a := [45]) (by rw [hL]; rfl) rfl
        rw [show decide ((45 :: t)[0]? = some 45) = true by simp] at c1 ⊢
        rw [e1]
        (conv => whnf)
        (refine cla_ (c1) ?_)
        (repeat' (first | (refine stg_ ?_) | fail | (refine br_ (fun hbr => ?_) (fun hbr => ?_))))
        (refine RetOK.t rfl ?_; (repeat' ((conv => whnf); (first | done | (refine ⟨_, _, rfl, ⟨rfl, ?_⟩, ?_⟩) | fail))); (all_goals (conv => whnf)))
        all_goals (rw [e2])
      · have e1 : tlN (b :: t) = b :: t := by rw [tlN, if_neg (by simpa using hb)]
        have : s = mkS (b :: t) := by apply bs_ext; rw [hL, mkS_toList]
        rw [show decide ((b :: t)[0]? = some 45) = false by simpa using hb] at c1 ⊢
        rw [e1]
        (conv => whnf)
        (refine cla_ (c1) ?_)
        (repeat' (first | (refine stg_ ?_) | fail | (refine br_ (fun hbr => ?_) (fun hbr => ?_))))
        (refine RetOK.t rfl ?_; (repeat' ((conv => whnf); (first | done | (refine ⟨_, _, rfl, ⟨rfl, ?_⟩, ?_⟩) | fail))); (all_goals (conv => whnf)))
        all_goals (rw [this])
  refine pc_intro ttOk (by kernel_rfl) Tryd.func56 rfl (by kernel_rfl) (by kernel_rfl) (by kernel_rfl) (fun hw => ?_)
  (conv => whnf)
  (repeat' (first | (refine stg_ ?_) | (refine cla_ (c2) ?_) | (refine br_ (fun hbr => ?_) (fun hbr => ?_))))
  all_goals (refine RetOK.t rfl ?_; (repeat' ((conv => whnf); (first | done | (refine ⟨_, _, rfl, ⟨rfl, ?_⟩, ?_⟩) | fail))); (all_goals (conv => whnf)))
theorem dgt_eq (c : UInt8) : dgtB c = dgB c := by
  unfold dgtB dgB
  congr 1 <;> (rw [decide_eq_decide]; omega)
theorem dec_cmp (m : Int) (s : ByteArray) : ((decB m).toList == s.toList) = decide (decS m = s.data.toList) := by
  rw [← bTl, ← bTl, decB, mkS_toList, Bool.beq_eq_decide_eq]
set_option maxHeartbeats 4000000 in
theorem ReadDecimal_v (s : ByteArray) : PC Tryd.prog 37 [.d (.str s)] (.tup [.d (.int .i64 ((rdN s.data.toList).getD 0)), .d (.bool (rdN s.data.toList).isSome)]) [] := by
  refine pc_intro ttOk (by kernel_rfl) Tryd.func37 rfl (by kernel_rfl) (by kernel_rfl) (by kernel_rfl) (fun hw => ?_)
  have c1 := CutPrefix_v s ⟨#[45]⟩ rfl (by rw [← bTl])
  obtain ⟨l, hl⟩ : ∃ l, l = s.data.toList := ⟨_, rfl⟩
  rw [← hl] at c1 ⊢
  obtain ⟨t, ht⟩ : ∃ t, t = tlN l := ⟨_, rfl⟩
  have hsz := mkS_size t
  rw [← ht] at c1
  (conv => whnf)
  (refine cla_ (c1) ?_)
  (repeat (refine stg_ ?_))
  (refine br_ (fun h1 => ?_) (fun h1 => ?_))
  · rw [rdN_no (by rw [← ht]; omega)]
    (repeat' (first | (refine stg_ ?_) | fail | (refine br_ (fun hbr => ?_) (fun hbr => ?_))))
    all_goals ((refine RetOK.t rfl ?_; (repeat' ((conv => whnf); (first | done | (refine ⟨_, _, rfl, ⟨rfl, ?_⟩, ?_⟩) | fail))); (all_goals (conv => whnf))); all_goals rfl)
  (repeat' (first | (refine stg_ ?_) | fail | (refine br_ (fun hbr => ?_) (fun hbr => ?_))))
  · rw [rdN_no (by rw [← ht]; omega)]
    (refine RetOK.t rfl ?_; (repeat' ((conv => whnf); (first | done | (refine ⟨_, _, rfl, ⟨rfl, ?_⟩, ?_⟩) | fail))); (all_goals (conv => whnf)))
    all_goals rfl
  have hn1 : 1 ≤ t.length := by omega
  have hn2 : t.length ≤ 18 := by omega
  refine LoopW.go (α := Nat × Nat) (fun p => [(0, .d (.str s)), (4, .d (.str (mkS t))), (5, .d (.bool (decide (l[0]? = some 45)))), (6, .d (.int .i64 p.2)), (7, .d (.int .i64 p.1))]) (fun _ => [.gone]) (fun p => p.1 ≤ t.length ∧ dgV (t.take p.1) 0 = some p.2) (fun p => t.length - p.1) (0, 0) covT_ ⟨by simp, rfl⟩ ?_
  rintro ⟨k, n⟩ ⟨k1, k2⟩
  dsimp only at k1 k2 ⊢
  have hnb := dgV_lt _ _ _ k2
  have hkb : (t.take k).length = k := by rw [List.length_take]; omega
  have h10 : 10 ^ (t.take k).length ≤ 10 ^ 18 := Nat.pow_le_pow_right (by omega) (by omega)
  (conv => whnf)
  (repeat (refine stg_ ?_))
  (refine br_ (fun h3 => ?_) (fun h3 => ?_))
  · obtain ⟨c, hc⟩ := at_lt' (xs := t) (k := k) (by omega)
    have hc' : (mkS t)[k]? = some c := by rw [bL', mkS_toList]; exact hc
    have h10' : 10 ^ (t.take k).length ≤ 10 ^ 17 := Nat.pow_le_pow_right (by omega) (by omega)
    have hcl := c.toNat_lt
    have c2 := isDigit_v c
    rw [← dgt_eq] at c2
    cases hd : dgtB c
    · rw [hd] at c2
      rw [rdN_bad (by rw [← ht]; exact k2) (by rw [← ht]; exact hc) hd]
      (repeat' (first | (refine stg_ ?_) | (refine cla_ (c2) ?_) | (refine br_ (fun hbr => ?_) (fun hbr => ?_))))
      all_goals ((refine RetOK.t rfl ?_; (repeat' ((conv => whnf); (first | done | (refine ⟨_, _, rfl, ⟨rfl, ?_⟩, ?_⟩) | fail))); (all_goals (conv => whnf))); all_goals rfl)
    · rw [hd] at c2
      have hd2 := hd
      simp only [dgtB, Bool.and_eq_true, decide_eq_true_eq] at hd2
      (repeat' (first | (refine stg_ ?_) | (refine cla_ (c2) ?_) | (refine br_ (fun hbr => ?_) (fun hbr => ?_))))
      refine NextW.go (k + 1, n * 10 + (c.toNat - 48)) (Weak.cov ⟨rfl, rfl, rfl, ?_, rfl, trivial⟩ ⟨trivial, trivial⟩ rfl) ⟨by dsimp only; omega, dgV_step k2 hc hd⟩ (by dsimp only; omega)
      show V.d (D.int .i64 ((n : Int) * 10 + ((c.toNat : Nat) - 48 : Int))) = V.d (D.int .i64 ((n * 10 + (c.toNat - 48) : Nat) : Int))
      congr 2; omega
  · have hk : k = t.length := by omega
    rw [hk, List.take_length] at k2
    rw [rdN_end (by rw [← ht]; exact hn1) (by rw [← ht]; exact hn2) (by rw [← ht]; exact k2)]
    have fin : ∀ m : Int, (decS m = l ∧ (decB m).toList = s.toList) ∨ (¬ decS m = l ∧ ¬ (decB m).toList = s.toList) := fun m => by
      have h := dec_cmp m s
      rw [← hl] at h
      by_cases q : decS m = l
      · exact .inl ⟨q, by simpa [q] using h⟩
      · exact .inr ⟨q, by simpa [q] using h⟩
    by_cases h45 : l[0]? = some 45
    · have em : sgN l n = 0 - (n : Int) := by rw [sgN, if_pos h45]; omega
      have c3 := Decimal_v (0 - (n : Int))
      rw [em, decide_eq_true h45]
      rcases fin (0 - (n : Int)) with ⟨q1, q2⟩ | ⟨q1, q2⟩
      · rw [if_pos q1]
        (conv => whnf)
        (repeat' (first | (refine stg_ ?_) | (refine cla_ (c3) ?_) | (refine br_ (fun hbr => ?_) (fun hbr => ?_))))
        all_goals first | (exfalso; exact hbr q2) | (exfalso; exact q2 hbr) | ((refine RetOK.t rfl ?_; (repeat' ((conv => whnf); (first | done | (refine ⟨_, _, rfl, ⟨rfl, ?_⟩, ?_⟩) | fail))); (all_goals (conv => whnf))); all_goals rfl)
      · rw [if_neg q1]
        (conv => whnf)
        (repeat' (first | (refine stg_ ?_) | (refine cla_ (c3) ?_) | (refine br_ (fun hbr => ?_) (fun hbr => ?_))))
        all_goals first | (exfalso; exact hbr q2) | (exfalso; exact q2 hbr) | ((refine RetOK.t rfl ?_; (repeat' ((conv => whnf); (first | done | (refine ⟨_, _, rfl, ⟨rfl, ?_⟩, ?_⟩) | fail))); (all_goals (conv => whnf))); all_goals rfl)
    · have em : sgN l n = (n : Int) := by rw [sgN, if_neg h45]
      have c3 := Decimal_v (n : Int)
      rw [em, decide_eq_false h45]
      rcases fin (n : Int) with ⟨q1, q2⟩ | ⟨q1, q2⟩
      · rw [if_pos q1]
        (conv => whnf)
        (repeat' (first | (refine stg_ ?_) | (refine cla_ (c3) ?_) | (refine br_ (fun hbr => ?_) (fun hbr => ?_))))
        all_goals first | (exfalso; exact hbr q2) | (exfalso; exact q2 hbr) | ((refine RetOK.t rfl ?_; (repeat' ((conv => whnf); (first | done | (refine ⟨_, _, rfl, ⟨rfl, ?_⟩, ?_⟩) | fail))); (all_goals (conv => whnf))); all_goals rfl)
      · rw [if_neg q1]
        (conv => whnf)
        (repeat' (first | (refine stg_ ?_) | (refine cla_ (c3) ?_) | (refine br_ (fun hbr => ?_) (fun hbr => ?_))))
        all_goals first | (exfalso; exact hbr q2) | (exfalso; exact q2 hbr) | ((refine RetOK.t rfl ?_; (repeat' ((conv => whnf); (first | done | (refine ⟨_, _, rfl, ⟨rfl, ?_⟩, ?_⟩) | fail))); (all_goals (conv => whnf))); all_goals rfl)
def rnL : List ByteArray → Option (List Int)
  | [] => some []
  | x :: t => match rdN x.data.toList with
    | none => none
    | some n => match rnL t with
      | none => none
      | some r => some (n :: r)
theorem rnL_app : ∀ (a b : List ByteArray), rnL (a ++ b) = (rnL a).bind fun r => (rnL b).map (r ++ ·)
  | [], b => by
    show rnL b = _
    cases rnL b <;> rfl
  | x :: t, b => by
    rw [List.cons_append, rnL, rnL, rnL_app t b]
    cases rdN x.data.toList with
    | none => rfl
    | some n =>
      cases rnL t with
      | none => rfl
      | some r =>
        cases rnL b with
        | none => rfl
        | some q => rfl
theorem rnL_snoc {a : List ByteArray} {x : ByteArray} {r : List Int} {n : Int} (h : rnL a = some r) (hx : rdN x.data.toList = some n) : rnL (a ++ [x]) = some (r ++ [n]) := by
  rw [rnL_app, h, rnL, hx, rnL]; rfl
theorem rnL_bad {xs : List ByteArray} {k : Nat} {x : ByteArray} (hk : xs[k]? = some x) (hx : rdN x.data.toList = none) : rnL xs = none := by
  rw [← List.take_append_drop k xs, rnL_app, drop_at hk, rnL, hx]
  cases rnL (xs.take k) <;> rfl
theorem rnL_len : ∀ {xs : List ByteArray} {r : List Int}, rnL xs = some r → r.length = xs.length
  | [], r, h => by cases h; rfl
  | x :: t, r, h => by
    rw [rnL] at h
    split at h
    · cases h
    · split at h
      · cases h
      · rename_i q hq
        cases h
        rw [List.length_cons, List.length_cons, rnL_len hq]
theorem rnL_dec : ∀ {xs : List ByteArray} {r : List Int}, rnL xs = some r → xs = r.map decB
  | [], r, h => by cases h; rfl
  | x :: t, r, h => by
    rw [rnL] at h
    split at h
    · cases h
    · rename_i n hn
      split at h
      · cases h
      · rename_i q hq
        cases h
        rw [List.map_cons, ← rnL_dec hq]
        congr 1
        apply bs_ext
        rw [decB, mkS_toList, rdN_dec hn]
def ptO (w : ByteArray) : Option TAxisPoint := match rnL (spB 58 w) with
  | some [p, q] => some ⟨p, q⟩
  | _ => none
def ptsL : List ByteArray → Option (List TAxisPoint)
  | [] => some []
  | x :: t => match ptO x with
    | none => none
    | some p => match ptsL t with
      | none => none
      | some r => some (p :: r)
theorem ptsL_app : ∀ (a b : List ByteArray), ptsL (a ++ b) = (ptsL a).bind fun r => (ptsL b).map (r ++ ·)
  | [], b => by
    show ptsL b = _
    cases ptsL b <;> rfl
  | x :: t, b => by
    rw [List.cons_append, ptsL, ptsL, ptsL_app t b]
    cases ptO x with
    | none => rfl
    | some n =>
      cases ptsL t with
      | none => rfl
      | some r =>
        cases ptsL b with
        | none => rfl
        | some q => rfl
theorem ptsL_snoc {a : List ByteArray} {x : ByteArray} {r : List TAxisPoint} {n : TAxisPoint} (h : ptsL a = some r) (hx : ptO x = some n) : ptsL (a ++ [x]) = some (r ++ [n]) := by
  rw [ptsL_app, h, ptsL, hx, ptsL]; rfl
theorem ptsL_bad {xs : List ByteArray} {k : Nat} {x : ByteArray} (hk : xs[k]? = some x) (hx : ptO x = none) : ptsL xs = none := by
  rw [← List.take_append_drop k xs, ptsL_app, drop_at hk, ptsL, hx]
  cases ptsL (xs.take k) <;> rfl
theorem ptsL_len : ∀ {xs : List ByteArray} {r : List TAxisPoint}, ptsL xs = some r → r.length = xs.length
  | [], r, h => by cases h; rfl
  | x :: t, r, h => by
    rw [ptsL] at h
    split at h
    · cases h
    · split at h
      · cases h
      · rename_i q hq
        cases h
        rw [List.length_cons, List.length_cons, ptsL_len hq]
theorem jn_spB (s : ByteArray) : jn (spB 32 s) = s := by
  apply bs_ext
  rw [jn, mkS_toList, spB, List.map_map, show (fun x : ByteArray => x.data.toList) ∘ mkS = id from by funext l; exact mkS_toList l, List.map_id, join_spL]
theorem pt_text {w : ByteArray} {p : TAxisPoint} (h : ptO w = some p) : ptB p = w := by
  unfold ptO at h
  split at h
  · rename_i a b e
    cases h
    have e2 := rnL_dec e
    apply bs_ext
    have e3 := join_spL 58 w.data.toList
    have e4 : spL 58 w.data.toList = [decS a, decS b] := by
      have := congrArg (List.map (fun x : ByteArray => x.data.toList)) e2
      rw [spB, List.map_map, show (fun x : ByteArray => x.data.toList) ∘ mkS = id from by funext l; exact mkS_toList l, List.map_id] at this
      rw [this]
      simp [decB, mkS]
    rw [← e3, e4, ptB, bs_app, bs_app, decB, decB, mkS_toList, mkS_toList]
    simp [Lib.join]
  · cases h
theorem pts_text : ∀ {xs : List ByteArray} {r : List TAxisPoint}, ptsL xs = some r → r.map ptB = xs
  | [], r, h => by cases h; rfl
  | x :: t, r, h => by
    rw [ptsL] at h
    split at h
    · cases h
    · rename_i p hp
      split at h
      · cases h
      · rename_i q hq
        cases h
        rw [List.map_cons, pt_text hp, pts_text hq]
def aP : List ByteArray → Option TAxis
  | n :: a :: b :: c :: r => match rnL [a, b, c] with
    | some [x, y, z] => match ptsL r with
      | some m => some ⟨n, x, y, z, m⟩
      | none => none
    | _ => none
  | _ => none
theorem aP_text {ws : List ByteArray} {a : TAxis} (h : aP ws = some a) : wordsB a = ws := by
  unfold aP at h
  split at h
  · rename_i n x y z r
    split at h
    · rename_i p q t e
      split at h
      · rename_i m hm
        cases h
        have e2 := rnL_dec e
        simp only [List.map_cons, List.map_nil, List.cons.injEq, and_true] at e2
        rw [wordsB, pts_text hm, ← e2.1, ← e2.2.1, ← e2.2.2]; rfl
      · cases h
    · cases h
  · cases h
def raA (s : ByteArray) : Option TAxis := match aP (spB 32 s) with
  | some a => if axB a = true then some a else none
  | none => none
theorem ra_text {s : ByteArray} {a : TAxis} (h : aP (spB 32 s) = some a) : textB a = s := by rw [textB, aP_text h, jn_spB]
theorem ra_ne {s : ByteArray} {a : TAxis} (h : aP (spB 32 s) = some a) : s ≠ .empty := fun e => by
  have h1 := congrArg List.length (aP_text h)
  rw [words_len, e] at h1
  simp [spB, spL] at h1
  omega
def axEq (x y : TAxis) : Bool := (x.fName.toList == y.fName.toList) && ((x.fMin == y.fMin) && ((x.fDefault == y.fDefault) && ((x.fMax == y.fMax) && eqL apEq x.fMap y.fMap)))
set_option maxHeartbeats 1000000 in
theorem l29Same_v (x y : TAxis) : PC Tryd.prog 34 [.pX x.D, .pX y.D] (.d (.bool (axEq x y))) [] := by
  refine pc_intro ttOk (by kernel_rfl) Tryd.func34 rfl (by kernel_rfl) (by kernel_rfl) (by kernel_rfl) (fun hw => ?_)
  have hL : (x.fMap.map TAxisPoint.D).length = x.fMap.length := List.length_map _
  have hL' : (y.fMap.map TAxisPoint.D).length = y.fMap.length := List.length_map _
  (conv => whnf)
  (refine RegD.auto (by kernel_rfl) ?_; conv => whnf)
  (repeat' (first | (refine stg_ ?_) | fail | (refine br_ (fun hbr => ?_) (fun hbr => ?_))))
  all_goals first | ((refine RetOK.d rfl rfl ?_; conv => whnf); simp_all [axEq]; done) | skip
  · skip
    (refine RetOK.d rfl rfl ?_; conv => whnf)
    rw [axEq, eqL_len (by omega)]; simp
  · skip
    have hE : axEq x y = eqL apEq x.fMap y.fMap := by simp_all [axEq]
    have hm : (x.fMap.map TAxisPoint.D).length ≤ 9223372036854775807 := hw.1.2.2.2.2.1.1
    refine LoopW.go (α := Nat) (fun k => [(0, .pX x.D), (1, .pX y.D), (5, .d (.int .i64 k))]) (fun k => [.gone]) (fun k => k ≤ x.fMap.length ∧ axEq x y = eqL apEq (x.fMap.drop k) (y.fMap.drop k)) (fun k => x.fMap.length - k) 0 covT_ ?_ (fun k hk => ?_)
    · exact ⟨by omega, hE⟩
    obtain ⟨hk1, hk2⟩ := hk
    (conv => whnf)
    (refine br_ (fun h6 => ?_) (fun h6 => ?_) <;> (repeat (refine stg_ ?_)))
    · obtain ⟨x', hx⟩ := at_lt' (xs := x.fMap) (k := k) (by omega)
      obtain ⟨y', hy⟩ := at_lt' (xs := y.fMap) (k := k) (by omega)
      rw [eqL_at hx hy] at hk2
      (repeat (refine stg_ ?_))
      (refine br_ (fun h7 => ?_) (fun h7 => ?_) <;> (repeat (refine stg_ ?_)))
      · (refine RetOK.d rfl rfl ?_; conv => whnf)
        rw [hk2, show apEq x' y' = false by rw [apEq]; simp; grind]; rfl
      · (repeat (refine stg_ ?_))
        exact NextW.go (k + 1) covT_ ⟨by omega, by rw [hk2, show apEq x' y' = true by rw [apEq]; simp; grind]; rfl⟩ (by omega)
    · (refine RetOK.d rfl rfl ?_; conv => whnf)
      rw [hk2, eqL_end (by omega) (by omega)]
theorem specSameAxes_v (xs ys : List TAxis) : PC Tryd.prog 17 [.d (.lst (xs.map TAxis.D)), .d (.lst (ys.map TAxis.D))] (.d (.bool (eqL axEq xs ys))) [] := by
  refine pc_intro ttOk (by kernel_rfl) Tryd.func17 rfl (by kernel_rfl) (by kernel_rfl) (by kernel_rfl) (fun hw => ?_)
  have hL : (xs.map TAxis.D).length = xs.length := List.length_map _
  have hL' : (ys.map TAxis.D).length = ys.length := List.length_map _
  have hm : (xs.map TAxis.D).length ≤ 9223372036854775807 := hw.1.1
  (conv => whnf)
  (refine br_ (fun h1 => ?_) (fun h1 => ?_) <;> (repeat (refine stg_ ?_)))
  · (refine RetOK.d rfl rfl ?_; conv => whnf)
    rw [eqL_len (by omega)]
  · refine LoopW.go (α := Nat) (fun k => [(0, .d (.lst (xs.map TAxis.D))), (1, .d (.lst (ys.map TAxis.D))), (5, .d (.int .i64 k))]) (fun k => [.gone]) (fun k => k ≤ xs.length ∧ eqL axEq xs ys = eqL axEq (xs.drop k) (ys.drop k)) (fun k => xs.length - k) 0 covT_ ?_ (fun k hk => ?_)
    · exact ⟨by omega, rfl⟩
    obtain ⟨hk1, hk2⟩ := hk
    (conv => whnf)
    (refine br_ (fun h2 => ?_) (fun h2 => ?_) <;> (repeat (refine stg_ ?_)))
    · obtain ⟨x, hx⟩ := at_lt' (xs := xs) (k := k) (by omega)
      obtain ⟨y, hy⟩ := at_lt' (xs := ys) (k := k) (by omega)
      rw [eqL_at hx hy] at hk2
      (repeat (refine stg_ ?_))
      (refine cl_ (l29Same_v x y) ?_)
      (refine br_ (fun h3 => ?_) (fun h3 => ?_) <;> (repeat (refine stg_ ?_)))
      · (refine RetOK.d rfl rfl ?_; conv => whnf)
        rw [hk2, h3]; rfl
      · (repeat (refine stg_ ?_))
        exact NextW.go (k + 1) covT_ ⟨by omega, by rw [hk2, h3]; rfl⟩ (by omega)
    · (refine RetOK.d rfl rfl ?_; conv => whnf)
      rw [hk2, eqL_end (by omega) (by omega)]
theorem divR_mono {n m d : Int} (hd : 0 < d) (h : n ≤ m) : divR n d ≤ divR m d := by
  rw [divR_pos hd, divR_pos hd]
  have h1 := Int.emod_add_mul_ediv n d
  have h2 := Int.emod_add_mul_ediv m d
  have a1 := Int.emod_nonneg n (show d ≠ 0 by omega)
  have a2 := Int.emod_nonneg m (show d ≠ 0 by omega)
  have b1 := Int.emod_lt_of_pos n hd
  have b2 := Int.emod_lt_of_pos m hd
  have hle : n / d ≤ m / d := Int.ediv_le_ediv hd h
  rcases Int.lt_or_eq_of_le hle with hlt | he
  · split <;> split <;> omega
  · have he2 : d * (n / d) = d * (m / d) := by rw [he]
    split <;> split <;> omega
theorem mpGo_apLt {p : TAxisPoint} {x : TAxisPoint} {t : List TAxisPoint} (h : mpGo (some p) (x :: t) = true) : apB x = true ∧ p.fFrom < x.fFrom ∧ p.fTo ≤ x.fTo ∧ mpGo (some x) t = true := by
  rw [mpGo_cons] at h
  simp only [ltO, apLt, Bool.and_eq_true, decide_eq_true_eq] at h
  exact ⟨h.1.1, h.1.2.1, h.1.2.2, h.2⟩
theorem mg_lo {n : Int} : ∀ (xs : List TAxisPoint) (p : TAxisPoint), mpGo (some p) xs = true → p.fFrom < n → (∃ q ∈ xs, n ≤ q.fFrom) → p.fTo ≤ mapGo n (some p) xs
  | [], p, _, _, ⟨q, hq, _⟩ => by cases hq
  | x :: t, p, h, hp, hq => by
    obtain ⟨h1, h2, h3, h4⟩ := mpGo_apLt h
    rw [mapGo]
    split
    · exact h3
    · split
      · have := le_divR (n := (n - p.fFrom) * (x.fTo - p.fTo)) (d := x.fFrom - p.fFrom) (c := 0) (by omega) (by
          rw [Int.zero_mul]; exact Int.mul_nonneg (by omega) (by omega))
        omega
      · obtain ⟨q, hq, hn⟩ := hq
        have ih := mg_lo t x h4 (by omega) ⟨q, by
          rcases List.mem_cons.1 hq with rfl | hq
          · omega
          · exact hq, hn⟩
        omega
theorem mg_hi {n : Int} {x p : TAxisPoint} {t : List TAxisPoint} (h : mpGo (some p) (x :: t) = true) (hp : p.fFrom < n) (hn : n ≤ x.fFrom) : mapGo n (some p) (x :: t) ≤ x.fTo := by
  obtain ⟨h1, h2, h3, h4⟩ := mpGo_apLt h
  rw [mapGo]
  split
  · exact Int.le_refl _
  · split
    · have := divR_le (n := (n - p.fFrom) * (x.fTo - p.fTo)) (d := x.fFrom - p.fFrom) (c := x.fTo - p.fTo) (by omega) (by
        rw [Int.mul_comm (x.fTo - p.fTo)]; exact Int.mul_le_mul_of_nonneg_right (by omega) (by omega))
      omega
    · omega
theorem mg_mono {n m : Int} (hnm : n ≤ m) : ∀ (xs : List TAxisPoint) (p : TAxisPoint), mpGo (some p) xs = true → p.fFrom < n → (∃ q ∈ xs, m ≤ q.fFrom) → mapGo n (some p) xs ≤ mapGo m (some p) xs
  | [], p, _, _, ⟨q, hq, _⟩ => by cases hq
  | x :: t, p, h, hp, hq => by
    obtain ⟨h1, h2, h3, h4⟩ := mpGo_apLt h
    obtain ⟨q, hq, hn⟩ := hq
    by_cases e1 : n ≤ x.fFrom
    · by_cases e2 : m ≤ x.fFrom
      · by_cases e3 : m = x.fFrom
        · have := mg_hi h hp e1
          have e4 : mapGo m (some p) (x :: t) = x.fTo := by rw [mapGo, if_pos e3]
          omega
        · have e4 : n ≠ x.fFrom := by omega
          rw [mapGo, mapGo, if_neg e3, if_neg e4, if_pos (by omega), if_pos (by omega)]
          have := divR_mono (n := (n - p.fFrom) * (x.fTo - p.fTo)) (m := (m - p.fFrom) * (x.fTo - p.fTo)) (d := x.fFrom - p.fFrom) (by omega) (Int.mul_le_mul_of_nonneg_right (by omega) (by omega))
          omega
      · have a := mg_hi h hp e1
        have b := mg_lo (n := m) t x h4 (by omega) ⟨q, by
          rcases List.mem_cons.1 hq with rfl | hq
          · omega
          · exact hq, hn⟩
        have e4 : mapGo m (some p) (x :: t) = mapGo m (some x) t := by rw [mapGo, if_neg (by omega), if_neg (by omega)]
        omega
    · have ih := mg_mono hnm t x h4 (by omega) ⟨q, by
        rcases List.mem_cons.1 hq with rfl | hq
        · omega
        · exact hq, hn⟩
      rw [mapGo, mapGo, if_neg (by omega), if_neg (by omega), if_neg (by omega), if_neg (by omega)]
      exact ih
theorem mg_at {q : TAxisPoint} : ∀ (xs : List TAxisPoint) (o : Option TAxisPoint), mpGo o xs = true → q ∈ xs → mapGo q.fFrom o xs = q.fTo ∧ (∀ p, o = some p → p.fFrom < q.fFrom)
  | [], _, _, h => by cases h
  | x :: t, o, h, hq => by
    have h' := h
    rw [mpGo_cons] at h
    simp only [Bool.and_eq_true] at h
    have ho : ∀ p, o = some p → p.fFrom < x.fFrom := fun p hp => by subst hp; exact (mpGo_apLt h').2.1
    rcases List.mem_cons.1 hq with rfl | hq
    · refine ⟨?_, ho⟩
      cases o <;> rw [mapGo, if_pos rfl]
    · obtain ⟨e1, e2⟩ := mg_at t (some x) h.2 hq
      have e3 := e2 x rfl
      refine ⟨?_, fun p hp => Int.lt_trans (ho p hp) e3⟩
      cases o with
      | none => rw [mapGo, if_neg (by omega), e1]
      | some p => rw [mapGo, if_neg (by omega), if_neg (by omega), e1]
theorem has_mem {n : Int} {xs : List TAxisPoint} (h : hasB n xs = true) : ∃ q ∈ xs, q.fFrom = n ∧ q.fTo = n := by
  simp only [hasB, List.any_eq_true, Bool.and_eq_true, beq_iff_eq] at h
  obtain ⟨x, hx, h1, h2⟩ := h
  exact ⟨x, hx, h1.symm, h2.symm⟩
theorem mapB_parts {xs : List TAxisPoint} (h : mapB xs = true) (h0 : xs ≠ []) : mpGo none xs = true ∧ hasB (-16384) xs = true ∧ hasB 0 xs = true ∧ hasB 16384 xs = true := by
  have hp : 0 < xs.length := List.length_pos_iff.2 h0
  have h1 := mapB_mp h
  rw [mapB_yes hp h1, mapB_has xs h1] at h
  simp only [Bool.and_eq_true] at h
  exact ⟨h1, h.1.1.1, h.1.1.2, h.1.2⟩
theorem mapN_fix {a : TAxis} (h : mapB a.fMap = true) {n : Int} (hn : n = -16384 ∨ n = 0 ∨ n = 16384) : mapN a n = n := by
  by_cases h0 : a.fMap = []
  · rw [mapN, h0, mapGo]
  obtain ⟨h1, h2, h3, h4⟩ := mapB_parts h h0
  have : hasB n a.fMap = true := by rcases hn with rfl | rfl | rfl <;> assumption
  obtain ⟨q, hq, e1, e2⟩ := has_mem this
  rw [mapN, ← e1, (mg_at _ _ h1 hq).1, e1, e2]
theorem mapN_mono {a : TAxis} (h : mapB a.fMap = true) {n m : Int} (hn : nrm n = true) (hm : nrm m = true) (hnm : n ≤ m) : mapN a n ≤ mapN a m := by
  simp only [nrm, Bool.and_eq_true, decide_eq_true_eq] at hn hm
  by_cases h0 : a.fMap = []
  · rw [mapN, mapN, h0, mapGo, mapGo]; exact hnm
  obtain ⟨h1, h2, h3, h4⟩ := mapB_parts h h0
  obtain ⟨q, hq, e1, e2⟩ := has_mem h4
  have hf := fun x => mapB_first (q := x) h
  unfold mapN
  cases hxs : a.fMap with
  | nil => exact absurd hxs h0
  | cons x t =>
    rw [hxs] at h1 hq hf
    have hx := hf x rfl
    have h5 : mpGo (some x) t = true := by rw [mpGo_cons] at h1; simp only [Bool.and_eq_true] at h1; exact h1.2
    by_cases e3 : m = x.fFrom
    · have : n = m := by omega
      rw [this]; exact Int.le_refl _
    have hqt : q ∈ t := by
      rcases List.mem_cons.1 hq with rfl | hq
      · omega
      · exact hq
    by_cases e4 : n = x.fFrom
    · rw [mapGo, mapGo, if_pos e4, if_neg e3]
      exact mg_lo t x h5 (by omega) ⟨q, hqt, by omega⟩
    · rw [mapGo, mapGo, if_neg e4, if_neg e3]
      exact mg_mono hnm t x h5 (by omega) ⟨q, hqt, by omega⟩
theorem mapN_nrm {a : TAxis} (h : mapB a.fMap = true) {n : Int} (hn : nrm n = true) : -16384 ≤ mapN a n ∧ mapN a n ≤ 16384 := by
  have hn' := hn
  simp only [nrm, Bool.and_eq_true, decide_eq_true_eq] at hn'
  have a1 := mapN_mono h (n := -16384) (m := n) (by decide) hn hn'.1
  have a2 := mapN_mono h (n := n) (m := 16384) hn (by decide) hn'.2
  rw [mapN_fix h (.inl rfl)] at a1
  rw [mapN_fix h (.inr (.inr rfl))] at a2
  exact ⟨a1, a2⟩
theorem plainN_mono {a : TAxis} (h : axB a = true) {v w : Int} (hvw : v ≤ w) : plainN a v ≤ plainN a w := by
  obtain ⟨h1, h2, h3, h4, h5, -⟩ := axB_facts h
  unfold plainN
  generalize hx : max a.fMin (min a.fMax v) = x
  generalize hy : max a.fMin (min a.fMax w) = y
  have hxy : x ≤ y := by omega
  have hx1 : a.fMin ≤ x := by omega
  have hy1 : y ≤ a.fMax := by omega
  by_cases e1 : a.fDefault < x
  · rw [if_pos e1, if_pos (by omega)]
    exact divR_mono (by omega) (by omega)
  rw [if_neg e1]
  by_cases e2 : a.fDefault < y
  · rw [if_pos e2]
    have p1 : 0 ≤ divR ((y - a.fDefault) * 16384) (a.fMax - a.fDefault) := le_divR (by omega) (by omega)
    split
    · have p2 : divR ((x - a.fDefault) * 16384) (a.fDefault - a.fMin) ≤ 0 := divR_le (by omega) (by omega)
      omega
    · exact p1
  rw [if_neg e2]
  by_cases e3 : x < a.fDefault
  · rw [if_pos e3]
    split
    · exact divR_mono (by omega) (by omega)
    · exact divR_le (by omega) (by omega)
  · rw [if_neg e3, if_neg (by omega)]
    exact Int.le_refl _
theorem plainN_def {a : TAxis} (h : axB a = true) : plainN a a.fDefault = 0 := by
  obtain ⟨h1, h2, h3, h4, h5, -⟩ := axB_facts h
  unfold plainN
  rw [if_neg (by omega), if_neg (by omega)]
theorem plainN_min {a : TAxis} (h : axB a = true) (hm : a.fMin < a.fDefault) : plainN a a.fMin = -16384 := by
  obtain ⟨h1, h2, h3, h4, h5, -⟩ := axB_facts h
  unfold plainN
  have e : max a.fMin (min a.fMax a.fMin) = a.fMin := by omega
  rw [e, if_neg (by omega), if_pos hm]
  have p1 : -16384 ≤ divR ((a.fMin - a.fDefault) * 16384) (a.fDefault - a.fMin) := le_divR (by omega) (by omega)
  have p2 : divR ((a.fMin - a.fDefault) * 16384) (a.fDefault - a.fMin) ≤ -16384 := divR_le (by omega) (by omega)
  omega
theorem plainN_max {a : TAxis} (h : axB a = true) (hm : a.fDefault < a.fMax) : plainN a a.fMax = 16384 := by
  obtain ⟨h1, h2, h3, h4, h5, -⟩ := axB_facts h
  unfold plainN
  have e : max a.fMin (min a.fMax a.fMax) = a.fMax := by omega
  rw [e, if_pos hm]
  have p1 : 16384 ≤ divR ((a.fMax - a.fDefault) * 16384) (a.fMax - a.fDefault) := le_divR (by omega) (by omega)
  have p2 : divR ((a.fMax - a.fDefault) * 16384) (a.fMax - a.fDefault) ≤ 16384 := divR_le (by omega) (by omega)
  omega
theorem nmI_eq {a : TAxis} (h : axB a = true) (v : Int) : nmI a v = mapN a (plainN a v) := by rw [nmI, if_pos h]
theorem nmI_mono {a : TAxis} (h : axB a = true) {v w : Int} (hvw : v ≤ w) : nmI a v ≤ nmI a w := by
  rw [nmI_eq h, nmI_eq h]
  exact mapN_mono (axB_facts h).2.2.2.2.2 (plainN_nrm h v) (plainN_nrm h w) (plainN_mono h hvw)
theorem nmI_bnd {a : TAxis} (h : axB a = true) (v : Int) : -16384 ≤ nmI a v ∧ nmI a v ≤ 16384 := by
  rw [nmI_eq h]
  exact mapN_nrm (axB_facts h).2.2.2.2.2 (plainN_nrm h v)
theorem nmI_def {a : TAxis} (h : axB a = true) : nmI a a.fDefault = 0 := by
  rw [nmI_eq h, plainN_def h, mapN_fix (axB_facts h).2.2.2.2.2 (.inr (.inl rfl))]
theorem nmI_min {a : TAxis} (h : axB a = true) (hm : a.fMin < a.fDefault) : nmI a a.fMin = -16384 := by
  rw [nmI_eq h, plainN_min h hm, mapN_fix (axB_facts h).2.2.2.2.2 (.inl rfl)]
theorem nmI_max {a : TAxis} (h : axB a = true) (hm : a.fDefault < a.fMax) : nmI a a.fMax = 16384 := by
  rw [nmI_eq h, plainN_max h hm, mapN_fix (axB_facts h).2.2.2.2.2 (.inr (.inr rfl))]
theorem dec_no {n : Int} {c : UInt8} (h : dgtB c = false) (h2 : c ≠ 45) : c ∉ decS n := fun hm => by
  rcases decS_in hm with h3 | h3
  · rw [h] at h3; cases h3
  · exact h2 h3
theorem rnL_of : ∀ {ns : List Int}, (∀ n ∈ ns, n.natAbs < 10 ^ 18) → rnL (ns.map decB) = some ns
  | [], _ => rfl
  | n :: t, h => by
    rw [List.map_cons, rnL, decB, mkS_toList, rdN_of (h n (by simp)), rnL_of (fun m hm => h m (by simp [hm]))]
theorem ptO_of {p : TAxisPoint} (h1 : p.fFrom.natAbs < 10 ^ 18) (h2 : p.fTo.natAbs < 10 ^ 18) : ptO (ptB p) = some p := by
  have e : (ptB p).data.toList = decS p.fFrom ++ 58 :: decS p.fTo := by
    rw [ptB, bs_app, bs_app, decB, decB, mkS_toList, mkS_toList]; simp
  have e2 : spB 58 (ptB p) = [decB p.fFrom, decB p.fTo] := by
    rw [spB_at e (dec_no (by decide) (by decide)), spB_none (by rw [mkS_toList]; exact dec_no (by decide) (by decide))]; rfl
  have e3 := rnL_of (ns := [p.fFrom, p.fTo]) (by simp; omega)
  rw [List.map_cons, List.map_cons, List.map_nil] at e3
  rw [ptO, e2, e3]
theorem ptsL_of : ∀ {xs : List TAxisPoint}, (∀ p ∈ xs, p.fFrom.natAbs < 10 ^ 18 ∧ p.fTo.natAbs < 10 ^ 18) → ptsL (xs.map ptB) = some xs
  | [], _ => rfl
  | p :: t, h => by
    rw [List.map_cons, ptsL, ptO_of (h p (by simp)).1 (h p (by simp)).2, ptsL_of (fun q hq => h q (by simp [hq]))]
theorem nm_no {s : ByteArray} (h : nameB s = true) : (32 : UInt8) ∉ s.data.toList := fun hm => by
  simp only [nameB, Bool.and_eq_true] at h
  have h2 := h.2
  cases hl : s.data.toList with
  | nil => rw [hl] at hm; cases hm
  | cons x t =>
    rw [hl] at hm h2
    simp only [nmL, Bool.and_eq_true] at h2
    rcases List.mem_cons.1 hm with rfl | hm
    · exact absurd h2.1 (by decide)
    · have := List.all_eq_true.1 h2.2 _ hm
      exact absurd this (by decide)
theorem wd_no {a : TAxis} (h : axB a = true) : ∀ w ∈ wordsB a, (32 : UInt8) ∉ w.data.toList := by
  intro w hw
  have hn : nameB a.fName = true := by
    simp only [axB, Bool.and_eq_true] at h
    exact h.1.1.1.1
  have hd : ∀ n, (32 : UInt8) ∉ (decB n).data.toList := fun n => by rw [decB, mkS_toList]; exact dec_no (by decide) (by decide)
  rw [wordsB] at hw
  rcases List.mem_append.1 hw with hw | hw
  · simp only [List.mem_cons, List.not_mem_nil, or_false] at hw
    rcases hw with rfl | rfl | rfl | rfl
    · exact nm_no hn
    all_goals exact hd _
  · obtain ⟨p, _, rfl⟩ := List.mem_map.1 hw
    have e : (ptB p).data.toList = decS p.fFrom ++ 58 :: decS p.fTo := by
      rw [ptB, bs_app, bs_app, decB, decB, mkS_toList, mkS_toList]; simp
    rw [e]
    intro hm
    rcases List.mem_append.1 hm with hm | hm
    · exact dec_no (by decide) (by decide) hm
    · rcases List.mem_cons.1 hm with hm | hm
      · exact absurd hm (by decide)
      · exact dec_no (by decide) (by decide) hm
theorem spB_jn {ws : List ByteArray} (h0 : ws ≠ []) (h : ∀ w ∈ ws, (32 : UInt8) ∉ w.data.toList) : spB 32 (jn ws) = ws := by
  rw [spB, jn, mkS_toList, spL_join (by simpa using h0) (by
    intro w hw
    obtain ⟨x, hx, rfl⟩ := List.mem_map.1 hw
    exact h x hx), List.map_map, show mkS ∘ (fun x : ByteArray => x.data.toList) = id from by funext x; exact mkS_of x, List.map_id]
theorem aP_of {a : TAxis} (h : axB a = true) : aP (wordsB a) = some a := by
  obtain ⟨h1, h2, h3, h4, h5, h6⟩ := axB_facts h
  have e1 := rnL_of (ns := [a.fMin, a.fDefault, a.fMax]) (by simp; omega)
  have e2 : ptsL (a.fMap.map ptB) = some a.fMap := by
    refine ptsL_of fun p hp => ?_
    obtain ⟨k, hk⟩ := List.mem_iff_getElem?.1 hp
    have hap := mp_ap _ _ (mapB_mp h6) k p hk
    simp only [apB, nrm, Bool.and_eq_true, decide_eq_true_eq] at hap
    omega
  show aP (a.fName :: decB a.fMin :: decB a.fDefault :: decB a.fMax :: a.fMap.map ptB) = some a
  have e1' : rnL [decB a.fMin, decB a.fDefault, decB a.fMax] = some [a.fMin, a.fDefault, a.fMax] := e1
  rw [aP, e1', e2]
theorem raA_of {a : TAxis} (h : axB a = true) : raA (textB a) = some a := by
  have e : spB 32 (textB a) = wordsB a := spB_jn (by simp [wordsB]) (wd_no h)
  rw [raA, e, aP_of h]
  simp only [h, if_true]
theorem axEq_self (a : TAxis) : eqL axEq [a] [a] = true := by
  have hp : ∀ xs : List TAxisPoint, eqL apEq xs xs = true := fun xs => by
    induction xs with
    | nil => rfl
    | cons x t ih => simp [eqL, apEq, ih]
  simp [eqL, axEq, hp]
theorem a2Long_v (xs ys : List UInt8) : PC Tryd.prog 10 [.d (.lst (xs.map bD)), .d (.lst (ys.map bD))] (.d (.bool (decide (3000 < xs.length) || decide (3000 < ys.length)))) [] := by
  refine pc_intro ttOk (by kernel_rfl) Tryd.func10 rfl (by kernel_rfl) (by kernel_rfl) (by kernel_rfl) (fun hw => ?_)
  have h1 : (xs.map bD).length = xs.length := List.length_map _
  have h2 : (ys.map bD).length = ys.length := List.length_map _
  (conv => whnf)
  (repeat' (first | (refine stg_ ?_) | fail | (refine br_ (fun hbr => ?_) (fun hbr => ?_))))
  all_goals ((refine RetOK.d rfl rfl ?_; conv => whnf); simp_all; try omega)
  all_goals (rw [decide_eq_false (p := 3000 < xs.length) (by omega), Bool.false_or, decide_eq_decide]; omega)
def a2N (code : List UInt8) (k n : Int) : Int := if (code.length : Int) ≤ k ∨ n < 1 then 0 else (((code[k.toNat]?).map UInt8.toNat).getD 0 : Nat) % n
theorem a2N_in (code : List UInt8) (k n : Int) (hn : 1 ≤ n) : 0 ≤ a2N code k n ∧ a2N code k n < n := by
  unfold a2N
  split
  · omega
  · exact ⟨Int.emod_nonneg _ (by omega), Int.emod_lt_of_pos _ (by omega)⟩
theorem a2At_v (xs : List UInt8) (k : Nat) (n : Int) : PC Tryd.prog 12 [.d (.lst (xs.map bD)), .d (.int .i64 k), .d (.int .i64 n)] (.d (.int .i64 (a2N xs k n))) [] := by
  refine pc_intro ttOk (by kernel_rfl) Tryd.func12 rfl (by kernel_rfl) (by kernel_rfl) (by kernel_rfl) (fun hw => ?_)
  have h1 : (xs.map bD).length = xs.length := List.length_map _
  have hE : a2N xs k n = if (xs.length : Int) ≤ (k : Int) ∨ n < 1 then 0 else (((xs[k]?).map UInt8.toNat).getD 0 : Nat) % n := rfl
  (conv => whnf)
  by_cases hk : (xs.length : Int) ≤ k
  · rw [if_pos (.inl hk)] at hE
    rw [hE]
    (repeat' (first | (refine stg_ ?_) | fail | (refine br_ (fun hbr => ?_) (fun hbr => ?_))))
    all_goals first | (exfalso; omega) | ((refine RetOK.d rfl rfl ?_; conv => whnf); done)
  by_cases hn : n < 1
  · rw [if_pos (.inr hn)] at hE
    rw [hE]
    (repeat' (first | (refine stg_ ?_) | fail | (refine br_ (fun hbr => ?_) (fun hbr => ?_))))
    all_goals first | (exfalso; omega) | ((refine RetOK.d rfl rfl ?_; conv => whnf); done)
  rw [if_neg (by omega)] at hE
  obtain ⟨c, hc⟩ := at_lt' (xs := xs) (k := k) (by omega)
  have hx : (xs.map bD)[k]? = some (bD c) := by rw [List.getElem?_map, hc]; rfl
  have hcn := c.toNat_lt
  rw [hc] at hE
  rw [hE]
  have ht : ((c.toNat : Nat) : Int).tmod n = ((c.toNat : Nat) : Int) % n := Int.tmod_eq_emod_of_nonneg (by omega)
  (repeat' (first | (refine stg_ ?_) | fail | (refine br_ (fun hbr => ?_) (fun hbr => ?_))))
  all_goals first | (exfalso; omega) | ((refine RetOK.d rfl rfl ?_; conv => whnf); rw [ht]; rfl)

theorem Weak.pushE {e : Env} {h : List Blk} (n : Nat) (dp : Bool) : Weak e h e (h ++ [.arr n [] dp]) := by
  intro B X N M a w R
  have hO : MM.O [none] = [] := rfl
  have mv : Mv (fun _ => True) w M h w (M ++ [none]) (h ++ [.arr n [] dp]) := push_mv R.inv.len (Ext.refl w) R.inv.hi (by rw [hO]; simp)
  exact ⟨_, R.step R.ext (R.inv.push R.base (Ext.refl w) (Mn := [none]) (hn := [.arr n [] dp]) rfl (by rw [hO]; simp) (by rw [hO]; simp) (by rw [hO]; simp) (by
    intro b k m hk hm
    cases b with
    | zero => simp at hk hm; subst hk; subst hm; exact rfl
    | succ b => simp at hk)) mv (fr_push R.fr _) (fr_push R.fh _)⟩
theorem repC_nilE {w : World} {M : MM} {h : List Blk} (b : Nat) {cs : List Value} (H : repC w M h .nils cs) : repC w M h (.own b 0 0) cs := by
  have : cs = [.slice none 0 0] := H
  subst this
  exact ⟨_, rfl, none, 0, rfl, Nat.le_refl _, Nat.zero_le _, fun _ => rfl, .inl rfl⟩
theorem repCs_lastE {w : World} {M : MM} {h : List Blk} (b : Nat) : ∀ (vs : List V) (cs : List Value), repCs w M h (vs ++ [.nils]) cs → repCs w M h (vs ++ [.own b 0 0]) cs
  | [], cs, H => by
    obtain ⟨c1, c2, e, h1, h2⟩ := H
    exact ⟨c1, c2, e, repC_nilE b h1, h2⟩
  | v :: vs, cs, H => by
    obtain ⟨c1, c2, e, h1, h2⟩ := H
    exact ⟨c1, c2, e, h1, repCs_lastE b vs c2 h2⟩
theorem Weak.adoptL {e : Env} {h : List Blk} (b : Nat) (vs : List V) (hb : h[b]? = some (.box (.st (vs ++ [.nils])))) (hb0 : Nat.ble 1 b = true) (n : Nat) (dp : Bool) : Weak e h e ((h ++ [Blk.arr n [] dp]).set b (.box (.st (vs ++ [.own h.length 0 0])))) :=
  Weak.trans (Weak.pushE n dp) (Weak.box b (v := .st (vs ++ [V.nils])) (v' := .st (vs ++ [V.own h.length 0 0])) (by rw [List.getElem?_append_left (List.getElem?_eq_some_iff.1 hb).1]; exact hb) hb0 (fun w M h' cs H => repCs_lastE _ vs cs H))
set_option maxHeartbeats 4000000 in
theorem readNumbers_v (xs : List ByteArray) (hn : xs.length ≤ 1048577) (v : V) (bs : List Blk) (h0 : ∀ ns, rnL xs = some ns → v = .tup [.own 1 0 ns.length, .d (.bool true)] ∧ bs = [.arr 1 (ns.map (D.int .i64)) true])
    (h1 : rnL xs = none → v = .tup [.nils, .d (.bool false)] ∧ bs = []) : PC Tryd.prog 21 [.d (.lst (xs.map D.str))] v bs := by
  refine pc_intro ttOk (by kernel_rfl) Tryd.func21 rfl (by kernel_rfl) (by kernel_rfl) (by kernel_rfl) (fun hw => ?_)
  have hL : (xs.map D.str).length = xs.length := List.length_map _
  (conv => whnf)
  (repeat (refine stg_ ?_))
  refine LoopW.go (α := Nat × List Int) (fun p => [(4, .own 1 0 p.2.length), (9, .d (.lst (xs.map D.str))), (10, .d (.int .i64 xs.length)), (11, .d (.int .i64 p.1))]) (fun p => [.gone, .arr 1 (p.2.map (D.int .i64)) true]) (fun p => p.1 ≤ xs.length ∧ rnL (xs.take p.1) = some p.2) (fun p => xs.length - p.1) (0, []) (Weak.trans (Weak.adopt (k := 4) rfl 1 true) (Weak.cov ⟨rfl, rfl, by rw [← hL]; rfl, rfl, trivial⟩ ⟨trivial, rfl, trivial⟩ rfl)) ⟨by simp, rfl⟩ ?_
  rintro ⟨k, ns⟩ ⟨k1, k2⟩
  dsimp only at k1 k2 ⊢
  have hnl := rnL_len k2
  rw [List.length_take] at hnl
  have hd : (ns.map (D.int .i64)).length = ns.length := List.length_map _
  (conv => whnf)
  (repeat (refine stg_ ?_))
  (refine br_ (fun h2 => ?_) (fun h2 => ?_))
  · obtain ⟨x, hx⟩ := at_lt' (xs := xs) (k := k) (by omega)
    have hex : (xs.map D.str)[k]? = some (.str x) := by rw [List.getElem?_map, hx]; rfl
    have c1 := ReadDecimal_v x
    rcases hr : rdN x.data.toList with _ | n
    · obtain ⟨rfl, rfl⟩ := h1 (rnL_bad hx hr)
      rw [hr] at c1
      have c1 : PC Tryd.prog 37 [.d (.str x)] (.tup [.d (.int .i64 0), .d (.bool false)]) [] := c1
      (repeat' (first | (refine stg_ ?_) | (refine cla_ (c1) ?_) | (refine br_ (fun hbr => ?_) (fun hbr => ?_))))
      (refine ⟨⟨[], trivial, by decide, ⟨_, rfl, rfl, ⟨_, _, rfl, rfl, ⟨_, _, rfl, ⟨rfl, ?_⟩, rfl⟩⟩⟩⟩⟩; (conv => whnf))
      all_goals rfl
    · rw [hr] at c1
      have c1 : PC Tryd.prog 37 [.d (.str x)] (.tup [.d (.int .i64 n), .d (.bool true)]) [] := c1
      (repeat' (first | (refine stg_ ?_) | (refine cla_ (c1) ?_) | (refine br_ (fun hbr => ?_) (fun hbr => ?_))))
      refine NextW.go (k + 1, ns ++ [n]) (Weak.cov ⟨?_, rfl, rfl, rfl, trivial⟩ ⟨trivial, ?_, trivial⟩ rfl) ⟨by dsimp only; omega, by dsimp only; rw [take_snoc_get hx]; exact rnL_snoc k2 hr⟩ (by dsimp only; omega)
      · show _ = V.own 1 0 (ns ++ [n]).length
        rw [List.length_append]; rfl
      · show _ = Blk.arr 1 ((ns ++ [n]).map (D.int .i64)) true
        rw [List.map_append, ← hd, List.take_length]; rfl
  · obtain rfl : k = xs.length := by omega
    rw [List.take_length] at k2
    obtain ⟨rfl, rfl⟩ := h0 ns k2
    (refine ⟨⟨[some 1], ⟨by decide, ?_, trivial, trivial⟩, by decide, ⟨_, rfl, rfl, ⟨_, _, rfl, ⟨by decide, ?_⟩, ⟨_, _, rfl, ⟨rfl, ?_⟩, rfl⟩⟩⟩⟩⟩)
    all_goals rfl
structure RaR (s : ByteArray) (v : V) (bs : List Blk) : Prop where
  own : ∀ a, raA s = some a → v = .tup [.st [.d (.str a.fName), .d (.int .i64 a.fMin), .d (.int .i64 a.fDefault), .d (.int .i64 a.fMax), .own 1 0 a.fMap.length], .d (.bool true)] ∧ bs = [.arr 2 (a.fMap.map TAxisPoint.D) true]
  no : raA s = none → v = .tup [.st [.d (.str .empty), .d (.int .i64 0), .d (.int .i64 0), .d (.int .i64 0), .nils], .d (.bool false)] ∧ bs = []
def trRA : OT := .q 0 (.q 1 (.q 2 (.q 3 (.q 4 (.q 5 (.q 6 (.q 7 (.q 8 (.q 9 (.q 10 (.q 11 (.alt 12 (.alt 13 (.alt 14 .done .nil) .nil) (.alt 13 (.alt 12 (.alt 14 .done .nil) .nil) .nil)))))))))))))
set_option maxHeartbeats 8000000 in
theorem ReadAxis_v (s : ByteArray) (hs : s.size ≤ 1048576) (v : V) (bs : List Blk) (hR : RaR s v bs) : PC Tryd.prog 6 [.d (.str s)] v bs := by
  refine pc_intro ttOk (by kernel_rfl) Tryd.func6 rfl (by kernel_rfl) (by kernel_rfl) (by kernel_rfl) (fun hw => ?_)
  have c1 := Split_v s ⟨#[32]⟩ 32 rfl hs rfl (by rw [← bTl, ← bTl]; rfl)
  have hl : s.data.toList.length = s.size := Array.length_toList
  have hcl := List.count_le_length (a := (32 : UInt8)) (l := s.data.toList)
  have hn := spB_len 32 s
  obtain ⟨ws, hws⟩ : ∃ ws, ws = spB 32 s := ⟨_, rfl⟩
  rw [← hws] at c1 hn
  have hraA : raA s = match aP ws with
    | some a => if axB a = true then some a else none
    | none => none := by rw [hws]; rfl
  by_cases h4 : ws.length < 4
  · have hno : aP ws = none := by
      unfold aP
      split
      · rename_i e; simp at h4; omega
      · rfl
    obtain ⟨rfl, rfl⟩ := hR.no (by rw [hraA, hno])
    (conv => whnf)
    (repeat' (first | (refine stg_ ?_) | (refine cla_ (c1) ?_) | (refine br_ (fun hbr => ?_) (fun hbr => ?_))))
    all_goals try (exfalso; omega)
    all_goals (refine RetOK.t rfl ?_; (repeat' (first | ((conv => whnf); done) | ((conv => whnf); (first | (exact ⟨by decide, rfl⟩) | (exact ⟨rfl, rfl⟩) | (refine ⟨_, _, rfl, ?_, ?_⟩) | (refine ⟨_, rfl, ?_⟩) | rfl)))))
  obtain ⟨n, a, b, c, r, hwe⟩ : ∃ n a b c r, ws = n :: a :: b :: c :: r := by
    match ws, h4 with
    | n :: a :: b :: c :: r, _ => exact ⟨n, a, b, c, r, rfl⟩
    | [], h => exact absurd (by simp) h
    | [_], h => exact absurd (by simp) h
    | [_, _], h => exact absurd (by simp) h
    | [_, _, _], h => exact absurd (by simp) h
  have hwl : ws.length = r.length + 4 := by rw [hwe]; rfl
  have haP : aP ws = match rnL [a, b, c] with
    | some [x, y, z] => match ptsL r with
      | some m => some ⟨n, x, y, z, m⟩
      | none => none
    | _ => none := by rw [hwe]; rfl
  rcases hr3 : rnL [a, b, c] with _ | q3
  · have c2 := readNumbers_v [a, b, c] (by simp) _ _ (fun ns h => by rw [hr3] at h; cases h) (fun _ => ⟨rfl, rfl⟩)
    rw [hr3] at haP
    obtain ⟨rfl, rfl⟩ := hR.no (by rw [hraA, haP])
    rw [hwl, hwe] at c1
    (conv => whnf)
    (repeat' (first | (refine stg_ ?_) | (refine cla_ (c1) ?_) | (refine cla_ (c2) ?_) | (refine br_ (fun hbr => ?_) (fun hbr => ?_))))
    all_goals try (exfalso; omega)
    all_goals (refine ⟨⟨[], trivial, by decide, ⟨_, rfl, rfl, ?_⟩⟩⟩; (repeat' (first | ((conv => whnf); done) | ((conv => whnf); (first | (exact ⟨by decide, rfl⟩) | (exact ⟨rfl, rfl⟩) | (refine ⟨_, _, rfl, ?_, ?_⟩) | (refine ⟨_, rfl, ?_⟩) | rfl)))))
  obtain ⟨x, y, z, rfl⟩ : ∃ x y z, q3 = [x, y, z] := by
    have := rnL_len hr3
    match q3, this with
    | [x, y, z], _ => exact ⟨x, y, z, rfl⟩
  have c2 := readNumbers_v [a, b, c] (by simp) (.tup [.own 1 0 3, .d (.bool true)]) [.arr 1 ([x, y, z].map (D.int .i64)) true] (fun ns h => by rw [hr3] at h; cases h; exact ⟨rfl, rfl⟩) (fun h => by rw [hr3] at h; cases h)
  rw [hr3] at haP
  rw [hwl, hwe] at c1
  have e0 : ((n :: a :: b :: c :: r).map D.str)[0]? = some (.str n) := rfl
  have e1 : ([x, y, z].map (D.int .i64))[0]? = some (.int .i64 x) := rfl
  have e2 : ([x, y, z].map (D.int .i64))[1]? = some (.int .i64 y) := rfl
  have e3 : ([x, y, z].map (D.int .i64))[2]? = some (.int .i64 z) := rfl
  (conv => whnf)
  repeat' (first | ((fail_if_success (with_reducible apply RegD.id)); (refine stg_ ?_)) | (refine cla_ (c1) ?_) | (refine cla_ (c2) ?_) | (refine br_ (fun hbr => ?_) (fun hbr => ?_)))
  all_goals try (exfalso; omega)
  all_goals try (exfalso; simp_all; done)
  refine RegD.cutT [(0, .d (.str s)), (2, .pB 1 [] 0), (4, .own 2 0 (r.length + 4)), (7, .pB 4 [] 0)] [.gone, .box (.st [.d (.str .empty), .d (.int .i64 0), .d (.int .i64 0), .d (.int .i64 0), .nils]), .arr 1 ((n :: a :: b :: c :: r).map D.str) true, .gone, .box (.st [.d (.str n), .d (.int .i64 x), .d (.int .i64 y), .d (.int .i64 z), .nils])] trRA (by kernel_rfl) ?_ ?_
  · (conv => whnf)
    repeat' (first | (refine stg_ ?_) | (refine And.intro ?_ ?_ <;> (conv => whnf)))
    all_goals (refine Weak.cov ?_ ?_ ?_; (focus (repeat' (first | exact trivial | with_reducible rfl | (refine ⟨?_, ?_⟩) | rfl))); (focus (repeat' (first | exact trivial | with_reducible rfl | (refine ⟨?_, ?_⟩) | rfl))); (focus rfl))
  have hLr : (r.map D.str).length = r.length := List.length_map _
  (conv => whnf)
  (repeat (refine stg_ ?_))
  refine LoopW.go (α := Nat × List TAxisPoint) (fun p => [(0, .d (.str s)), (2, .pB 1 [] 0), (7, .pB 4 [] 0), (41, .own 2 4 r.length), (42, .d (.int .i64 r.length)), (43, .d (.int .i64 p.1))]) (fun p => [.gone, .box (.st [.d (.str .empty), .d (.int .i64 0), .d (.int .i64 0), .d (.int .i64 0), .nils]), .arr 1 ((n :: a :: b :: c :: r).map D.str) true, .gone, .box (.st [.d (.str n), .d (.int .i64 x), .d (.int .i64 y), .d (.int .i64 z), .own 5 0 p.2.length]), .arr 2 (p.2.map TAxisPoint.D) true])
    (fun p => p.1 ≤ r.length ∧ ptsL (r.take p.1) = some p.2) (fun p => r.length - p.1) (0, []) (Weak.trans (Weak.adoptL 4 [.d (.str n), .d (.int .i64 x), .d (.int .i64 y), .d (.int .i64 z)] rfl rfl 2 true) (Weak.cov ⟨rfl, rfl, rfl, ?_, ?_, rfl, trivial⟩ ⟨trivial, rfl, rfl, trivial, rfl, rfl, trivial⟩ rfl)) ⟨by simp, rfl⟩ ?_
  · rfl
  · rfl
  rintro ⟨k, ps⟩ ⟨k1, k2⟩
  dsimp only at k1 k2 ⊢
  have hpl := ptsL_len k2
  rw [List.length_take] at hpl
  have hd : (ps.map TAxisPoint.D).length = ps.length := List.length_map _
  (conv => whnf)
  (repeat (refine stg_ ?_))
  (refine br_ (fun h2 => ?_) (fun h2 => ?_))
  · obtain ⟨w, hw'⟩ := at_lt' (xs := r) (k := k) (by omega)
    have he : ((n :: a :: b :: c :: r).map D.str)[k + 4]? = some (.str w) := by
      show (r.map D.str)[k]? = _
      rw [List.getElem?_map, hw']; rfl
    have hwm : w ∈ spB 32 s := by rw [← hws, hwe]; simp [List.mem_of_getElem? hw']
    have hwz := spB_le 32 s w hwm
    have c3 := Split_v w ⟨#[58]⟩ 58 rfl (by omega) rfl (by rw [← bTl, ← bTl]; rfl)
    have hwc := spB_len 58 w
    have hwc2 := List.count_le_length (a := (58 : UInt8)) (l := w.data.toList)
    have hwl2 : w.data.toList.length = w.size := Array.length_toList
    obtain ⟨us, hus⟩ : ∃ us, us = spB 58 w := ⟨_, rfl⟩
    rw [← hus] at c3 hwc
    have hptO : ptO w = match rnL us with
      | some [p, q] => some ⟨p, q⟩
      | _ => none := by rw [hus]; rfl
    have hbad : ptO w = none → raA s = none := fun h => by rw [hraA, haP, ptsL_bad hw' h]
    have hLu : (us.map D.str).length = us.length := List.length_map _
    rcases hq : rnL us with _ | q
    · have c4 := readNumbers_v us (by omega) _ _ (fun ns h => by rw [hq] at h; cases h) (fun _ => ⟨rfl, rfl⟩)
      obtain ⟨rfl, rfl⟩ := hR.no (hbad (by rw [hptO, hq]))
      (repeat' (first | (refine stg_ ?_) | (refine cla_ (c3) ?_) | (refine cla_ (c4) ?_) | (refine br_ (fun hbr => ?_) (fun hbr => ?_))))
      all_goals first | (exfalso; simp_all; done) | (refine ⟨⟨[], trivial, by decide, ⟨_, rfl, rfl, ?_⟩⟩⟩; (repeat' (first | ((conv => whnf); done) | ((conv => whnf); (first | (exact ⟨by decide, rfl⟩) | (exact ⟨rfl, rfl⟩) | (refine ⟨_, _, rfl, ?_, ?_⟩) | (refine ⟨_, rfl, ?_⟩) | rfl)))))
    have c4 := readNumbers_v us (by omega) (.tup [.own 1 0 q.length, .d (.bool true)]) [.arr 1 (q.map (D.int .i64)) true] (fun ns h => by rw [hq] at h; cases h; exact ⟨rfl, rfl⟩) (fun h => by rw [hq] at h; cases h)
    by_cases h2l : q.length = 2
    · obtain ⟨p1, p2, rfl⟩ : ∃ p1 p2, q = [p1, p2] := by
        match q, h2l with
        | [p1, p2], _ => exact ⟨p1, p2, rfl⟩
      have f1 : ([p1, p2].map (D.int .i64))[0]? = some (.int .i64 p1) := rfl
      have f2 : ([p1, p2].map (D.int .i64))[1]? = some (.int .i64 p2) := rfl
      repeat' (first | ((fail_if_success (with_reducible apply RegD.id)); (refine stg_ ?_)) | (refine cla_ (c3) ?_) | (refine cla_ (c4) ?_) | (refine br_ (fun hbr => ?_) (fun hbr => ?_)))
      (repeat (refine stg_ ?_))
      have hpo : ptO w = some ⟨p1, p2⟩ := by rw [hptO, hq]
      refine NextW.go (k + 1, ps ++ [⟨p1, p2⟩]) (Weak.cov ⟨rfl, rfl, rfl, rfl, rfl, rfl, trivial⟩ ⟨trivial, rfl, rfl, trivial, ?_, ?_, trivial⟩ rfl) ⟨by dsimp only; omega, by dsimp only; rw [take_snoc_get hw']; exact ptsL_snoc k2 hpo⟩ (by dsimp only; omega)
      · show _ = Blk.box (.st [_, _, _, _, .own 5 0 (ps ++ [_]).length])
        rw [List.length_append]; rfl
      · show _ = Blk.arr 2 ((ps ++ [_]).map TAxisPoint.D) true
        rw [List.map_append, ← hd, List.take_length]; rfl
    · have hno : ptO w = none := by
        rw [hptO, hq]
        match q, h2l with
        | [], _ => rfl
        | [_], _ => rfl
        | [_, _], h => exact absurd rfl h
        | _ :: _ :: _ :: _, _ => rfl
      obtain ⟨rfl, rfl⟩ := hR.no (hbad hno)
      have hLq : (q.map (D.int .i64)).length = q.length := List.length_map _
      (repeat' (first | (refine stg_ ?_) | (refine cla_ (c3) ?_) | (refine cla_ (c4) ?_) | (refine br_ (fun hbr => ?_) (fun hbr => ?_))))
      all_goals first | (exfalso; omega) | (refine ⟨⟨[], trivial, by decide, ⟨_, rfl, rfl, ?_⟩⟩⟩; (repeat' (first | ((conv => whnf); done) | ((conv => whnf); (first | (exact ⟨by decide, rfl⟩) | (exact ⟨rfl, rfl⟩) | (refine ⟨_, _, rfl, ?_, ?_⟩) | (refine ⟨_, rfl, ?_⟩) | rfl)))))
  · have hk : k = r.length := by omega
    rw [hk, List.take_length] at k2
    rw [k2] at haP
    have haP' : aP ws = some ⟨n, x, y, z, ps⟩ := haP
    have c5 := AxisText_v ⟨n, x, y, z, ps⟩
    have htx := ra_text (by rw [← hws]; exact haP')
    have hne := ra_ne (by rw [← hws]; exact haP')
    cases hax : axB ⟨n, x, y, z, ps⟩
    · obtain ⟨rfl, rfl⟩ := hR.no (by rw [hraA, haP']; show (if axB _ = true then _ else _) = _; rw [hax]; rfl)
      rw [hax, if_neg (by decide)] at c5
      (repeat' (first | (refine stg_ ?_) | (refine cla_ (c5) ?_) | (refine br_ (fun hbr => ?_) (fun hbr => ?_))))
      all_goals first | (exfalso; exact hne (toL_inj hbr).symm) | (refine ⟨⟨[], trivial, by decide, ⟨_, rfl, rfl, ?_⟩⟩⟩; (repeat' (first | ((conv => whnf); done) | ((conv => whnf); (first | (exact ⟨by decide, rfl⟩) | (exact ⟨rfl, rfl⟩) | (refine ⟨_, _, rfl, ?_, ?_⟩) | (refine ⟨_, rfl, ?_⟩) | rfl)))))
    · obtain ⟨rfl, rfl⟩ := hR.own ⟨n, x, y, z, ps⟩ (by rw [hraA, haP']; show (if axB _ = true then _ else _) = _; rw [hax]; rfl)
      rw [hax, if_pos rfl, htx] at c5
      (repeat' (first | (refine stg_ ?_) | (refine cla_ (c5) ?_) | (refine br_ (fun hbr => ?_) (fun hbr => ?_))))
      all_goals first | (exfalso; exact hbr trivial) | (refine ⟨⟨[some 5], ⟨by decide, rfl, trivial, trivial⟩, by decide, ⟨_, rfl, rfl, ?_⟩⟩⟩; (repeat' (first | ((conv => whnf); done) | ((conv => whnf); (first | (exact ⟨by decide, rfl⟩) | (exact ⟨rfl, rfl⟩) | (refine ⟨_, _, rfl, ?_, ?_⟩) | (refine ⟨_, rfl, ?_⟩) | rfl)))))
end Go.Proofs.YthpnobngoghhiaaDoor