/- merged: several parts in one text. Leans on no more than they do. -/
import Derived.Test.YtpdeibhedafcfaaGreatDoorVM12
import Derived.KernelRfl
set_option linter.unusedSimpArgs false
set_option linter.unusedVariables false
namespace Go.Proofs.YtpdeibhedafcfaaGreatDoor
open Go.RowKit
def nforce : Nat → (Nat → Prop) → Prop
 | 0, K => K 0
 | n + 1, K => nforce n fun m => K (Nat.succ m)
theorem nforce_iff : ∀ {n : Nat} {K : Nat → Prop}, nforce n K ↔ K n
 | 0, _ => Iff.rfl
 | n + 1, K => nforce_iff (n := n) (K := fun m => K (Nat.succ m))
mutual
def V.force : V → (V → Prop) → Prop
 | .top, K => K .top
 | .undef, K => K .undef
 | .d x, K => K (.d x)
 | .nils, K => K .nils
 | .nilp, K => K .nilp
 | .own b o n, K => nforce b fun b => K (.own b o n)
 | .pB b z o, K => nforce b fun b => K (.pB b z o)
 | .pL b i z o, K => nforce b fun b => K (.pL b i z o)
 | .pX x, K => K (.pX x)
 | .fn f c, K => K (.fn f c)
 | .st fs, K => V.forces fs fun fs => K (.st fs)
 | .tup vs, K => K (.tup vs)
def V.forces : List V → (List V → Prop) → Prop
 | [], K => K []
 | v :: vs, K => v.force fun v => V.forces vs fun vs => K (v :: vs)
end
mutual
theorem V.force_iff : ∀ {v : V} {K : V → Prop}, v.force K ↔ K v
 | .top, _ => Iff.rfl
 | .undef, _ => Iff.rfl
 | .d _, _ => Iff.rfl
 | .nils, _ => Iff.rfl
 | .nilp, _ => Iff.rfl
 | .own b o n, K => nforce_iff (n := b) (K := fun b => K (.own b o n))
 | .pB b z o, K => nforce_iff (n := b) (K := fun b => K (.pB b z o))
 | .pL b i z o, K => nforce_iff (n := b) (K := fun b => K (.pL b i z o))
 | .pX _, _ => Iff.rfl
 | .fn _ _, _ => Iff.rfl
 | .st fs, K => V.forces_iff (vs := fs) (K := fun fs => K (.st fs))
 | .tup _, _ => Iff.rfl
theorem V.forces_iff : ∀ {vs : List V} {K : List V → Prop}, V.forces vs K ↔ K vs
 | [], _ => Iff.rfl
 | v :: vs, K => (V.force_iff (v := v) (K := fun v => V.forces vs fun vs => K (v :: vs))).trans (V.forces_iff (vs := vs) (K := fun vs => K (v :: vs)))
end
def ptK (d : Option Tmp) (v : V) (e : Env) (K : Env → Prop) : Prop :=
 match d with
 | some d => K ((d, v) :: e)
 | none => K e
theorem ptK_iff {d : Option Tmp} {v : V} {e : Env} {K : Env → Prop} : ptK d v e K ↔ K (pt d v e) := by cases d <;> exact Iff.rfl
def hforce : List Blk → (List Blk → Prop) → Prop
 | [], K => K []
 | b :: r, K => match b with
  | .arr n xs dp => hforce r fun r => K (.arr n xs dp :: r)
  | .box v => v.force fun v => hforce r fun r => K (.box v :: r)
  | .gone => hforce r fun r => K (.gone :: r)
  | .gho c s g sz t => hforce r fun r => K (.gho c s g sz t :: r)
  | .pin c g sz t => hforce r fun r => K (.pin c g sz t :: r)
  | .keep e f => hforce r fun r => K (.keep e f :: r)
  | .bld T E bs => hforce r fun r => K (.bld T E bs :: r)
  | .mp tg es => hforce r fun r => K (.mp tg es :: r)
  | .byr bs => hforce r fun r => K (.byr bs :: r)
theorem hforce_iff : ∀ (h : List Blk) (K : List Blk → Prop), hforce h K ↔ K h
 | [], K => Iff.rfl
 | b :: r, K => by
  cases b with
  | box v => exact (V.force_iff (v := v) (K := fun v => hforce r fun r => K (.box v :: r))).trans (hforce_iff r fun r => K (.box v :: r))
  | arr _ _ _ => exact hforce_iff r _
  | gone => exact hforce_iff r _
  | gho _ _ _ _ _ => exact hforce_iff r _
  | pin _ _ _ _ => exact hforce_iff r _
  | keep _ _ => exact hforce_iff r _
  | bld _ _ _ => exact hforce_iff r _
  | mp _ _ => exact hforce_iff r _
  | byr _ => exact hforce_iff r _
def runV (P : Program) (tt : TT) (dr : Bool) (o : Oper) (e : Env) (h : List Blk) (K : Env → List Blk → Prop) : Prop :=
 bif isQuiet o then quietV tt o e h (fun v => v.force fun v => ptK o.dst v e fun e => K e h) else loudV P tt dr o e h (fun v e' h' => hforce h' fun h' => v.force fun v => ptK o.dst v e' fun e => K e h')
def guardV (l : List Oper) (o : Oper) (e : Env) (A S : Env → Prop) : Prop :=
 match o.guard with
 | none => A e
 | some (j, b) => match l[j]? with
  | some oj => match oj.dst with
   | some d => match gt e d with
    | .d (.bool c) => bif b then BIf c (A ((d, .d (.bool true)) :: e)) (S ((d, .d (.bool false)) :: e)) else BIf c (S ((d, .d (.bool true)) :: e)) (A ((d, .d (.bool false)) :: e))
    | .undef => S e
    | _ => False
   | none => False
  | none => False
def stepV (P : Program) (tt : TT) (dr : Bool) (l : List Oper) (i : Nat) (K : Env → List Blk → Prop) (e : Env) (h : List Blk) : Prop :=
 match l[i]? with
 | some o => guardV l o e (fun e => runV P tt dr o e h K) (fun e => K (pt o.dst .undef e) h)
 | none => False
def seqV (P : Program) (tt : TT) (dr : Bool) (l : List Oper) : List Nat → (Env → List Blk → Prop) → Env → List Blk → Prop
 | [], K, e, h => K e h
 | i :: is, K, e, h => stepV P tt dr l i (seqV P tt dr l is K) e h
def opB (N : Nat) (o : Oper) : Bool :=
 o.op.operands.toList.all cOK && (match o.dst with | some d => Nat.ble (d + 1) N | none => true)
def opsB (N : Nat) (l : List Oper) : Bool := l.all (opB N)
section
variable {P : Program} {tt : TT} {B : World} {X : List Nat} {N : Nat} {M : MM} {e : Env} {h : List Blk} {a : Act} {w : World} {l : List Oper}
theorem opB_c {o : Oper} (h : opB N o = true) : (∀ x ∈ o.op.operands, cOK x = true) ∧ ∀ k, o.dst = some k → k < N := by
 simp only [opB, Bool.and_eq_true, List.all_eq_true] at h
 refine ⟨fun x hx => h.1 x (by simpa using hx), fun k hk => ?_⟩
 have := h.2
 rw [hk] at this
 exact Nat.le_of_ble_eq_true this
theorem opsB_c (h : opsB N l = true) {i : Nat} {o : Oper} (hi : l[i]? = some o) : opB N o = true := List.all_eq_true.1 h o (List.mem_of_getElem? hi)
theorem guard_sound (R : Rep B X N M e h a w) {i : Nat} {o : Oper} {A S : Env → Prop} (H : guardV l o e A S) :
  ∃ e', Rep B X N M e' h a w ∧ ((Region.wanted o (yielded l.toArray a.tmps) = true ∧ A e') ∨ (Region.wanted o (yielded l.toArray a.tmps) = false ∧ S e')) := by
 unfold guardV at H
 split at H
 ·rename_i hg
  exact ⟨e, R, .inl ⟨by simp [Region.wanted, hg], H⟩⟩
 ·rename_i j b hg
  split at H
  ·rename_i oj hj
   split at H
   ·rename_i d hd
    have hy : ∀ c, a.tmps.getD d Go.undef = .bool c → yielded l.toArray a.tmps j = some c := by
     intro c hc
     unfold yielded
     have h1 : (l.toArray[j]?).bind (·.dst) = some d := by simp [hj, hd]
     rw [h1]
     simp only [Option.bind_some]
     have : a.tmps[d]? = some (.bool c) := by
      rw [Array.getD_eq_getD_getElem?] at hc
      cases hx : a.tmps[d]? with
      | none => rw [hx] at hc; cases hc
      | some v => rw [hx] at hc; simp at hc; rw [hc]
     rw [this]
    have hu : a.tmps.getD d Go.undef = Go.undef → yielded l.toArray a.tmps j = none := by
     intro hc
     unfold yielded
     have h1 : (l.toArray[j]?).bind (·.dst) = some d := by simp [hj, hd]
     rw [h1]
     simp only [Option.bind_some]
     rw [Array.getD_eq_getD_getElem?] at hc
     cases hx : a.tmps[d]? with
     | none => rfl
     | some v => rw [hx] at hc; simp at hc; rw [hc]; rfl
    have hE := R.env d
    split at H
    ·rename_i c hc
     rw [hc] at hE
     have hE' := rep_bool.1 hE
     have hw : Region.wanted o (yielded l.toArray a.tmps) = (some c == some b) := by simp only [Region.wanted, hg, hy c hE']
     have R' : ∀ q, c = q → Rep B X N M ((d, .d (.bool q)) :: e) h a w := fun q hq => R.know (rep_bool.2 (by rw [hE', hq]))
     cases b with
     | true =>
      refine BIf.elim H (fun hc H => ⟨_, R' true hc, .inl ⟨by rw [hw, hc]; rfl, H⟩⟩) (fun hc H => ⟨_, R' false hc, .inr ⟨by rw [hw, hc]; rfl, H⟩⟩)
     | false =>
      refine BIf.elim H (fun hc H => ⟨_, R' true hc, .inr ⟨by rw [hw, hc]; rfl, H⟩⟩) (fun hc H => ⟨_, R' false hc, .inl ⟨by rw [hw, hc]; rfl, H⟩⟩)
    ·rename_i hc
     rw [hc] at hE
     exact ⟨e, R, .inr ⟨by simp only [Region.wanted, hg, hu hE]; rfl, H⟩⟩
    ·exact H.elim
   ·exact H.elim
  ·exact H.elim
theorem seq_sound (hT : TOk P tt) (hl : opsB N l = true) {K : Env → List Blk → Prop} {Q : Exit → Act → World → Prop} (hQ : ∀ e h M a w, K e h → Rep B X N M e h a w → Q .normal a w) :
  ∀ (is : List Nat) (M : MM) (e : Env) (h : List Blk) (a : Act) (w : World), seqV P tt false l is K e h → Rep B X N M e h a w → wpOps P l.toArray Q is a w
 | [], M, e, h, a, w, H, R => hQ e h M a w H R
 | i :: is, M, e, h, a, w, H, R => by
  rw [wpOps_cons]
  simp only [seqV, stepV] at H
  cases ho : l[i]? with
  | none => rw [ho] at H; exact H.elim
  | some o =>
   rw [ho] at H
   obtain ⟨c1, c2⟩ := opB_c (opsB_c hl ho)
   have ho' : l.toArray[i]? = some o := by simpa using ho
   unfold wpOp
   rw [ho']
   dsimp only at H ⊢
   obtain ⟨e', R', H | H⟩ := guard_sound (i := i) R H
   ·rw [if_pos H.1]
    refine .inl ?_
    have H := H.2
    unfold runV at H
    cases hq : isQuiet o with
    | true =>
     rw [hq] at H
     simp only [cond_true] at H
     obtain ⟨v, cv, k1, k2, k3⟩ := quiet_sound hT R'.inv R'.env c1 H
     have k1 := ptK_iff.1 (V.force_iff.1 k1)
     unfold Oper.wp
     rw [k3 w (.inr (Ext.refl w))]
     exact seq_sound hT hl hQ is M _ h _ w k1 (R'.put c2 k2)
    | false =>
     rw [hq] at H
     simp only [cond_false] at H
     exact loud_sound hT R' c1 H Q _ fun v cv e' h' M' w' k1 k2 k3 _ => seq_sound hT hl hQ is M' _ h' _ w' (ptK_iff.1 (V.force_iff.1 ((hforce_iff _ _).1 k1))) (k2.put c2 k3)
   ·rw [if_neg (by rw [H.1]; simp)]
    exact seq_sound hT hl hQ is M _ h _ w H.2 (R'.put c2 rfl)
end
section
variable {P : Program} {ops : Array Oper} {Q : Exit → Act → World → Prop} {md : Region.Mode}
def Closed (md : Region.Mode) (ops : Array Oper) (l : Array Bool) : Prop :=
 ∀ (j : Nat) (o : Oper), ops[j]? = some o → l.getD j false = true → ∀ e ∈ o.after, Region.binds md e = true → l.getD e.on false = true
theorem Closed.set {l : Array Bool} (h : Closed md ops l) {j : Nat} (hj : j ∈ Region.ready md ops l) : Closed md ops (l.setIfInBounds j true) := by
 intro i o ho hi e he hb
 by_cases hij : j = i
 ·subst hij
  obtain ⟨_, o', ho', hall⟩ := mem_ready.1 hj
  rw [ho] at ho'
  cases ho'
  exact getD_set_true (hall e he hb)
 ·rw [getD_set_ne false hij] at hi
  exact getD_set_true (h i o ho hi e he hb)
def wpAnyS (P : Program) (md : Region.Mode) (ops : Array Oper) (Q : Exit → Act → World → Prop) (S : Array Bool → World → Prop) : Nat → Array Bool → Act → World → Prop
 | 0, listed, a, w => Region.ready md ops listed = [] ∧ Q .normal a w
 | fuel + 1, listed, a, w =>
  (Region.ready md ops listed = [] → Q .normal a w) ∧
  ∀ i ∈ Region.ready md ops listed, wpOp P ops Q i (fun a' w' => S (listed.setIfInBounds i true) w' ∧ wpAnyS P md ops Q S fuel (listed.setIfInBounds i true) a' w') a w
theorem wpAny_of_S {S : Array Bool → World → Prop} : ∀ (fuel : Nat) (listed : Array Bool) (a : Act) (w : World), wpAnyS P md ops Q S fuel listed a w → wpAny P md ops Q fuel listed a w
 | 0, _, _, _, h => h
 | fuel + 1, _, _, _, h => ⟨h.1, fun i hi => wpOp_mono (fun a' w' h' => wpAny_of_S fuel _ a' w' h'.2) (h.2 i hi)⟩
theorem wpAnyS_mono {S S' : Array Bool → World → Prop} (hS : ∀ l w, S l w → S' l w) : ∀ (fuel : Nat) (listed : Array Bool) (a : Act) (w : World), wpAnyS P md ops Q S fuel listed a w → wpAnyS P md ops Q S' fuel listed a w
 | 0, _, _, _, h => h
 | fuel + 1, _, _, _, h => ⟨h.1, fun i hi => wpOp_mono (fun a' w' h' => ⟨hS _ _ h'.1, wpAnyS_mono hS fuel _ a' w' h'.2⟩) (h.2 i hi)⟩
theorem wpAnyS_first {S : Array Bool → World → Prop} {G : World → Prop} {i : Nat} {oi : Oper} {v : Value} (hi : ops[i]? = some oi) (hsel : ∀ (j : Nat) (o : Oper) cs b, ops[j]? = some o → o.op ≠ .select cs b)
  (hQ : ∀ c a w, Q (.panic c) (a.put oi.dst v) w → Q (.panic c) a w)
  (hG : ∀ l w', Closed md ops l → l.getD i true = false → S l w' → G w') (hSi : ∀ l w', S (l.setIfInBounds i true) w' ↔ S l w') :
  ∀ (fuel : Nat) (listed : Array Bool) (a : Act) (w : World), Closed md ops listed →
   (∀ j oj, ops[j]? = some oj → j ≠ i → listed.getD j true = false → (∀ e ∈ oj.after, Region.binds md e = true → e.on ≠ i) → oi.apart ops oj = true) →
   i ∈ Region.ready md ops listed → YieldsIf P ops G oi v a → S listed w →
   wpAnyS P md ops Q S fuel (listed.setIfInBounds i true) (a.put oi.dst v) w → wpAnyS P md ops Q S (fuel + 1) listed a w := by
 intro fuel
 induction fuel with
 | zero =>
  intro listed a w hcl _ hr hy hS H
  refine ⟨fun h => (by rw [h] at hr; cases hr), fun j hj => ?_⟩
  by_cases hji : j = i
  ·subst hji; exact hy.wpOp hi (hG _ _ hcl (mem_ready.1 hr).1 hS) ⟨(hSi _ _).2 hS, H⟩
  ·have := ready_mono hj hji
   rw [H.1] at this
   cases this
 | succ fuel ih =>
  intro listed a w hcl hfree hr hy hS H
  refine ⟨fun h => (by rw [h] at hr; cases hr), fun j hj => ?_⟩
  by_cases hji : j = i
  ·subst hji; exact hy.wpOp hi (hG _ _ hcl (mem_ready.1 hr).1 hS) ⟨(hSi _ _).2 hS, H⟩
  ·have h1 := H.2 j (ready_mono hj hji)
   obtain ⟨hjun, oj, hoj, hall⟩ := mem_ready.1 hj
   have hnot : ∀ e ∈ oj.after, Region.binds md e = true → e.on ≠ i := fun e he hb heq => by
    have h1 := hall e he hb
    have h0 := (mem_ready.1 hr).1
    rw [heq] at h1
    rcases Nat.lt_or_ge i listed.size with h' | h'
    ·simp [h'] at h0 h1; rw [h0] at h1; cases h1
    ·simp [Array.getElem?_eq_none h'] at h1
   have h2 := wpOp_putIf hoj (hfree j oj hoj hji hjun hnot) (fun cs b => hsel i oi cs b hi) (fun cs b => hsel j oj cs b hoj) hQ hy h1
   have hfree' : ∀ k ok, ops[k]? = some ok → k ≠ i → (listed.setIfInBounds j true).getD k true = false →
     (∀ e ∈ ok.after, Region.binds md e = true → e.on ≠ i) → oi.apart ops ok = true := fun k ok hk hki hun hno => by
    refine hfree k ok hk hki ?_ hno
    by_cases hjk : j = k
    ·subst hjk; exact hjun
    ·rw [getD_set_ne true hjk] at hun; exact hun
   refine wpOp_mono (fun a' w' h3 => ?_) h2
   have hS' : S (listed.setIfInBounds j true) w' := by
    have := h3.2.1
    rw [Array.setIfInBounds_comm _ _ (Ne.symm hji)] at this
    exact (hSi _ _).1 this
   refine ⟨hS', ih (listed.setIfInBounds j true) a' w' (hcl.set hj) hfree' (ready_mono hr (Ne.symm hji)) h3.1 hS' ?_⟩
   rw [Array.setIfInBounds_comm _ _ hji]
   exact h3.2.2
end
def reach (l : List Oper) (i : Nat) : List Nat → List Nat → List Nat
 | [], R => R
 | j :: js, R => reach l i js (match l[j]? with
  | some o => if o.after.any (fun e => Region.binds .any e && (e.on == i || R.contains e.on)) then j :: R else R
  | none => R)
theorem reach_spec {l : List Oper} {i : Nat} : ∀ (js R : List Nat), (∀ j ∈ R, ∀ s, Closed .any l.toArray s → s.getD j false = true → s.getD i false = true) →
  ∀ j ∈ reach l i js R, ∀ s, Closed .any l.toArray s → s.getD j false = true → s.getD i false = true
 | [], R, h => h
 | k :: js, R, h => by
  refine reach_spec js _ ?_
  split
  ·rename_i o ho
   split
   ·rename_i ha
    intro j hj
    rcases List.mem_cons.1 hj with rfl | hj
    ·obtain ⟨e, he, hb⟩ := Array.any_eq_true'.1 ha
     simp only [Bool.and_eq_true, Bool.or_eq_true, beq_iff_eq, List.contains_iff_mem] at hb
     intro s hs hj
     have h1 := hs j o (by simpa using ho) hj e he hb.1
     rcases hb.2 with h2 | h2
     ·rw [h2] at h1; exact h1
     ·exact h e.on h2 s hs h1
    ·exact h j hj
   ·exact h
  ·exact h
def isModAt (l : List Oper) (k : Nat) : Bool :=
 match l[k]? with
 | some o => isMod o
 | none => false
def modsLeft (l : List Oper) (listed : Array Bool) : List Nat := (List.range l.length).filter fun k => isModAt l k && !listed.getD k true
def ordGo (l : List Oper) : List Nat → Array Bool → Bool
 | [], listed => (Region.ready .any l.toArray listed).isEmpty
 | i :: is, listed => (match l[i]? with
  | some o => bif isQuiet o then Region.free .any l.toArray listed i && (Region.ready .any l.toArray listed).contains i && (!isLoad o || (modsLeft l listed).all (fun k => (reach l i (List.range l.length) []).contains k))
   else Region.ready .any l.toArray listed == [i]
  | none => false) && ordGo l is (listed.setIfInBounds i true)
def ordOK (l : List Oper) (is : List Nat) : Bool := Region.noSelect l.toArray && Nat.beq is.length l.length && ordGo l is (Array.replicate l.length false)
def SH (H : List (List Nat × World)) (l : Array Bool) (w : World) : Prop := ∀ p ∈ H, (∃ k ∈ p.1, l.getD k false = true) ∨ Ext p.2 w
section
variable {P : Program} {tt : TT} {B : World} {X : List Nat} {N : Nat} {l : List Oper}
theorem getD_tf {s : Array Bool} {k : Nat} (h : s.getD k true = false) : s.getD k false = false ∧ k < s.size := by
 rcases Nat.lt_or_ge k s.size with hlt | hge
 ·exact ⟨by simp [hlt] at h ⊢; exact h, hlt⟩
 ·simp [Array.getElem?_eq_none hge] at h
theorem any_sound (hT : TOk P tt) (hl : opsB N l = true) (hsel : Region.noSelect l.toArray = true) {K : Env → List Blk → Prop} {Q : Exit → Act → World → Prop} (hQ : ∀ e h M a w, K e h → Rep B X N M e h a w → Q .normal a w) (hP : ∀ c a w, ¬ Q (.panic c) a w) :
  ∀ (is : List Nat) (listed : Array Bool) (H : List (List Nat × World)) (M : MM) (e : Env) (h : List Blk) (a : Act) (w : World), ordGo l is listed = true → Closed .any l.toArray listed →
   (∀ p ∈ H, ∀ k, isModAt l k = true → listed.getD k true = false → k ∈ p.1) → (∀ p ∈ H, ∀ k ∈ p.1, isModAt l k = true) → SH H listed w →
   seqV P tt true l is K e h → Rep B X N M e h a w → wpAnyS P .any l.toArray Q (SH H) is.length listed a w
 | [], listed, H, M, e, h, a, w, ho, _, _, _, _, HK, R => ⟨by simpa [ordGo] using ho, hQ e h M a w HK R⟩
 | i :: is, listed, H, M, e, h, a, w, ho, hcl, hH1, hH2, hS, HK, R => by
  simp only [ordGo, Bool.and_eq_true] at ho
  simp only [seqV, stepV] at HK
  obtain ⟨ho1, ho2⟩ := ho
  cases hoi : l[i]? with
  | none => rw [hoi] at HK; exact HK.elim
  | some o =>
   rw [hoi] at HK ho1
   dsimp only at HK ho1
   obtain ⟨c1, c2⟩ := opB_c (opsB_c hl hoi)
   have hoi' : l.toArray[i]? = some o := by simpa using hoi
   obtain ⟨e', R', hG⟩ := guard_sound (i := i) R HK
   cases hq : isQuiet o with
   | true =>
    rw [hq] at ho1
    simp only [cond_true, Bool.and_eq_true] at ho1
    obtain ⟨⟨q1, q2⟩, q3⟩ := ho1
    have hri : i ∈ Region.ready .any l.toArray listed := by simpa using q2
    have hnm : isMod o = false := by
     obtain ⟨_, op, _, _, _, _⟩ := o
     unfold isQuiet at hq
     cases op <;> first
      | rfl
      | (cases hq; done)
      | skip
     rename_i c
     obtain ⟨callee, args, ats⟩ := c
     cases callee <;> first
      | rfl
      | (cases hq; done)
      | skip
     rename_i b
     cases b <;> first
      | rfl
      | cases hq
    have hnmi : isModAt l i = false := by simp [isModAt, hoi, hnm]
    -- the value it yields
    have hyv : ∃ v cv, rep w M h v cv ∧ YieldsIf P l.toArray (fun w' => isLoad o = false ∨ Ext w w') o cv a ∧ seqV P tt true l is K (pt o.dst v e') h := by
     rcases hG with ⟨hw, hG⟩ | ⟨hw, hG⟩
     ·unfold runV at hG
      rw [hq] at hG
      simp only [cond_true] at hG
      obtain ⟨v, cv, k1, k2, k3⟩ := quiet_sound hT R'.inv R'.env c1 hG
      have k1 := ptK_iff.1 (V.force_iff.1 k1)
      exact ⟨v, cv, k2, .inl ⟨hw, fun w' hw' => k3 w' hw'⟩, k1⟩
     ·exact ⟨.undef, Go.undef, rfl, .inr ⟨hw, rfl⟩, hG⟩
    obtain ⟨v, cv, k2, hy, k1⟩ := hyv
    let H' : List (List Nat × World) := (modsLeft l listed, w) :: H
    have hS' : SH H' listed w := by
     intro p hp
     rcases List.mem_cons.1 hp with rfl | hp
     ·exact .inr (Ext.refl w)
     ·exact hS p hp
    have hmem : ∀ k, k ∈ modsLeft l listed ↔ k < l.length ∧ isModAt l k = true ∧ listed.getD k true = false := fun k => by
     simp only [modsLeft, List.mem_filter, List.mem_range, Bool.and_eq_true, Bool.not_eq_true']
    have hH2' : ∀ p ∈ H', ∀ k ∈ p.1, isModAt l k = true := by
     intro p hp k hk
     rcases List.mem_cons.1 hp with rfl | hp
     ·exact ((hmem k).1 hk).2.1
     ·exact hH2 p hp k hk
    have hset : ∀ (s : Array Bool) (k : Nat), isModAt l k = true → (s.setIfInBounds i true).getD k false = s.getD k false := fun s k hk => getD_set_ne false (fun e => by subst e; rw [hnmi] at hk; cases hk)
    have hSi : ∀ s w', SH H' (s.setIfInBounds i true) w' ↔ SH H' s w' := fun s w' => by
     constructor
     ·intro hh p hp
      rcases hh p hp with ⟨k, hk, hs⟩ | hx
      ·exact .inl ⟨k, hk, by rw [hset s k (hH2' p hp k hk)] at hs; exact hs⟩
      ·exact .inr hx
     ·intro hh p hp
      rcases hh p hp with ⟨k, hk, hs⟩ | hx
      ·exact .inl ⟨k, hk, by rw [hset s k (hH2' p hp k hk)]; exact hs⟩
      ·exact .inr hx
    have ih := any_sound hT hl hsel hQ hP is (listed.setIfInBounds i true) H' M (pt o.dst v e') h (a.put o.dst cv) w ho2 (hcl.set hri) (by
      intro p hp k hk hun
      have hun' : listed.getD k true = false := by
       by_cases hik : i = k
       ·subst hik; rw [hnmi] at hk; cases hk
       ·rw [getD_set_ne true hik] at hun; exact hun
      rcases List.mem_cons.1 hp with rfl | hp
      ·refine (hmem k).2 ⟨?_, hk, hun'⟩
       unfold isModAt at hk
       split at hk
       ·rename_i ho; exact (List.getElem?_eq_some_iff.1 ho).1
       ·cases hk
      ·exact hH1 p hp k hk hun') hH2' ((hSi _ _).2 hS') k1 (R'.put c2 k2)
    refine wpAnyS_mono (S := SH H') (fun s w' hh p hp => hh p (List.mem_cons_of_mem _ hp)) _ _ _ _ ?_
    refine wpAnyS_first hoi' (Region.noSelect_spec hsel) (fun c a w hp => absurd hp (hP c _ w)) ?_ hSi is.length listed a w hcl (Region.free_spec hoi' q1) hri hy hS' ih
    intro s w' hs hun hh
    rcases hh (modsLeft l listed, w) (by simp [H']) with ⟨k, hk, hsk⟩ | hx
    ·left
     cases hld : isLoad o with
     | false => rfl
     | true =>
      exfalso
      rw [hld] at q3
      simp only [Bool.not_true, Bool.false_or, List.all_eq_true] at q3
      have := reach_spec (l := l) (i := i) (List.range l.length) [] (by simp) k (by simpa using q3 k hk) s hs hsk
      rw [(getD_tf hun).1] at this
      cases this
    ·exact .inr hx
   | false =>
    rw [hq] at ho1
    simp only [cond_false, beq_iff_eq] at ho1
    have hri : i ∈ Region.ready .any l.toArray listed := by rw [ho1]; simp
    have hun := (mem_ready.1 hri).1
    have hset : (listed.setIfInBounds i true).getD i false = true := by
     have := (getD_tf hun).2
     simp [this]
    have next : ∀ w' (hx : isMod o = false → Ext w w'), SH H (listed.setIfInBounds i true) w' := fun w' hx p hp => by
     cases hm : isMod o with
     | true => exact .inl ⟨i, hH1 p hp i (by simp [isModAt, hoi, hm]) hun, hset⟩
     | false =>
      rcases hS p hp with ⟨k, hk, hs⟩ | hxx
      ·exact .inl ⟨k, hk, getD_set_true hs⟩
      ·exact .inr (hxx.trans (hx hm))
    have hH1' : ∀ p ∈ H, ∀ k, isModAt l k = true → (listed.setIfInBounds i true).getD k true = false → k ∈ p.1 := fun p hp k hk hu => by
     refine hH1 p hp k hk ?_
     by_cases hik : i = k
     ·subst hik; exact hun
     ·rw [getD_set_ne true hik] at hu; exact hu
    refine ⟨fun h0 => (by rw [h0] at hri; cases hri), fun j hj => ?_⟩
    rw [ho1] at hj
    obtain rfl : j = i := by simpa using hj
    unfold wpOp
    rw [hoi']
    dsimp only
    rcases hG with ⟨hw, hG⟩ | ⟨hw, hG⟩
    ·rw [if_pos hw]
     refine .inl ?_
     unfold runV at hG
     rw [hq] at hG
     simp only [cond_false] at hG
     exact loud_sound hT R' c1 hG Q _ fun v cv e' h' M' w' k1 k2 k3 k4 => ⟨next w' (fun q => k4 q rfl), any_sound hT hl hsel hQ hP is _ H M' _ h' _ w' ho2 (hcl.set hri) hH1' hH2 (next w' (fun q => k4 q rfl)) (ptK_iff.1 (V.force_iff.1 ((hforce_iff _ _).1 k1))) (k2.put c2 k3)⟩
    ·rw [if_neg (by rw [hw]; simp)]
     exact ⟨next w (fun _ => Ext.refl w), any_sound hT hl hsel hQ hP is _ H M _ h _ w ho2 (hcl.set hri) hH1' hH2 (next w fun _ => Ext.refl w) hG (R'.put c2 rfl)⟩
end
inductive OT where
 | done
 | q (i : Nat) (t : OT)
 | alt (i : Nat) (t r : OT)
 | nil
def treeV (P : Program) (tt : TT) (l : List Oper) : OT → (Env → List Blk → Prop) → Env → List Blk → Prop
 | .done, K => K
 | .q i t, K => stepV P tt true l i (treeV P tt l t K)
 | .alt i t r, K => fun e h => match r with
  | .nil => stepV P tt true l i (treeV P tt l t K) e h
  | r => stepV P tt true l i (treeV P tt l t K) e h ∧ treeV P tt l r K e h
 | .nil, _ => fun _ _ => True
theorem treeV_alt {P : Program} {tt : TT} {l : List Oper} {i : Nat} {t r : OT} {K : Env → List Blk → Prop} {e : Env} {h : List Blk} (H : treeV P tt l (.alt i t r) K e h) : stepV P tt true l i (treeV P tt l t K) e h ∧ treeV P tt l r K e h := by
 cases r with
 | nil => exact ⟨H, trivial⟩
 | done => exact H
 | q _ _ => exact H
 | alt _ _ _ => exact H
def qOK (l : List Oper) (i : Nat) (listed : Array Bool) : Bool :=
 match l[i]? with
 | some o => isQuiet o && (Region.free .any l.toArray listed i && (Region.ready .any l.toArray listed).contains i && (!isLoad o || (modsLeft l listed).all (fun k => (reach l i (List.range l.length) []).contains k)))
 | none => false
def okT (l : List Oper) : OT → Nat → Array Bool → Option (List Nat) → Bool
 | .done, n, listed, rem => rem.isNone && Nat.beq n 0 && (Region.ready .any l.toArray listed).isEmpty
 | .q i t, n, listed, rem => match n with
  | n + 1 => rem.isNone && qOK l i listed && okT l t n (listed.setIfInBounds i true) none
  | 0 => false
 | .alt i t r, n, listed, rem => match n with
  | n + 1 => match rem.getD (Region.ready .any l.toArray listed) with
   | j :: js => Nat.beq j i && Nat.blt i l.length && okT l t n (listed.setIfInBounds i true) none && okT l r (n + 1) listed (some js)
   | [] => false
  | 0 => false
 | .nil, _, _, rem => match rem with
  | some [] => true
  | _ => false
def treeOK (l : List Oper) (t : OT) : Bool := Region.noSelect l.toArray && okT l t l.length (Array.replicate l.length false) none
section
variable {P : Program} {tt : TT} {B : World} {X : List Nat} {N : Nat} {l : List Oper}
theorem quiet_step (hT : TOk P tt) (hl : opsB N l = true) (hsel : Region.noSelect l.toArray = true) {Q : Exit → Act → World → Prop} (hP : ∀ c a w, ¬ Q (.panic c) a w) {K' : Env → List Blk → Prop} {i n : Nat} {listed : Array Bool} {o : Oper} (hoi : l[i]? = some o) (hq : isQuiet o = true)
  (ho1 : (Region.free .any l.toArray listed i && (Region.ready .any l.toArray listed).contains i && (!isLoad o || (modsLeft l listed).all (fun k => (reach l i (List.range l.length) []).contains k))) = true)
  (C : ∀ (H : List (List Nat × World)) (M : MM) (e : Env) (h : List Blk) (a : Act) (w : World), (∀ p ∈ H, ∀ k, isModAt l k = true → (listed.setIfInBounds i true).getD k true = false → k ∈ p.1) → (∀ p ∈ H, ∀ k ∈ p.1, isModAt l k = true) → SH H (listed.setIfInBounds i true) w → K' e h → Rep B X N M e h a w → wpAnyS P .any l.toArray Q (SH H) n (listed.setIfInBounds i true) a w)
  (H : List (List Nat × World)) (M : MM) (e : Env) (h : List Blk) (a : Act) (w : World) (hcl : Closed .any l.toArray listed) (hH1 : ∀ p ∈ H, ∀ k, isModAt l k = true → listed.getD k true = false → k ∈ p.1) (hH2 : ∀ p ∈ H, ∀ k ∈ p.1, isModAt l k = true) (hS : SH H listed w)
  (HK : stepV P tt true l i K' e h) (R : Rep B X N M e h a w) : wpAnyS P .any l.toArray Q (SH H) (n + 1) listed a w := by
 simp only [stepV] at HK
 rw [hoi] at HK
 dsimp only at HK
 obtain ⟨c1, c2⟩ := opB_c (opsB_c hl hoi)
 have hoi' : l.toArray[i]? = some o := by simpa using hoi
 obtain ⟨e', R', hG⟩ := guard_sound (i := i) R HK
 simp only [Bool.and_eq_true] at ho1
 obtain ⟨⟨q1, q2⟩, q3⟩ := ho1
 have hri : i ∈ Region.ready .any l.toArray listed := by simpa using q2
 have hnm : isMod o = false := by
  obtain ⟨_, op, _, _, _, _⟩ := o
  unfold isQuiet at hq
  cases op <;> first
   | rfl
   | (cases hq; done)
   | skip
  rename_i c
  obtain ⟨callee, args, ats⟩ := c
  cases callee <;> first
   | rfl
   | (cases hq; done)
   | skip
  rename_i b
  cases b <;> first
   | rfl
   | cases hq
 have hnmi : isModAt l i = false := by simp [isModAt, hoi, hnm]
 -- the value it yields
 have hyv : ∃ v cv, rep w M h v cv ∧ YieldsIf P l.toArray (fun w' => isLoad o = false ∨ Ext w w') o cv a ∧ K' (pt o.dst v e') h := by
  rcases hG with ⟨hw, hG⟩ | ⟨hw, hG⟩
  ·unfold runV at hG
   rw [hq] at hG
   simp only [cond_true] at hG
   obtain ⟨v, cv, k1, k2, k3⟩ := quiet_sound hT R'.inv R'.env c1 hG
   have k1 := ptK_iff.1 (V.force_iff.1 k1)
   exact ⟨v, cv, k2, .inl ⟨hw, fun w' hw' => k3 w' hw'⟩, k1⟩
  ·exact ⟨.undef, Go.undef, rfl, .inr ⟨hw, rfl⟩, hG⟩
 obtain ⟨v, cv, k2, hy, k1⟩ := hyv
 let H' : List (List Nat × World) := (modsLeft l listed, w) :: H
 have hS' : SH H' listed w := by
  intro p hp
  rcases List.mem_cons.1 hp with rfl | hp
  ·exact .inr (Ext.refl w)
  ·exact hS p hp
 have hmem : ∀ k, k ∈ modsLeft l listed ↔ k < l.length ∧ isModAt l k = true ∧ listed.getD k true = false := fun k => by
  simp only [modsLeft, List.mem_filter, List.mem_range, Bool.and_eq_true, Bool.not_eq_true']
 have hH2' : ∀ p ∈ H', ∀ k ∈ p.1, isModAt l k = true := by
  intro p hp k hk
  rcases List.mem_cons.1 hp with rfl | hp
  ·exact ((hmem k).1 hk).2.1
  ·exact hH2 p hp k hk
 have hset : ∀ (s : Array Bool) (k : Nat), isModAt l k = true → (s.setIfInBounds i true).getD k false = s.getD k false := fun s k hk => getD_set_ne false (fun e => by subst e; rw [hnmi] at hk; cases hk)
 have hSi : ∀ s w', SH H' (s.setIfInBounds i true) w' ↔ SH H' s w' := fun s w' => by
  constructor
  ·intro hh p hp
   rcases hh p hp with ⟨k, hk, hs⟩ | hx
   ·exact .inl ⟨k, hk, by rw [hset s k (hH2' p hp k hk)] at hs; exact hs⟩
   ·exact .inr hx
  ·intro hh p hp
   rcases hh p hp with ⟨k, hk, hs⟩ | hx
   ·exact .inl ⟨k, hk, by rw [hset s k (hH2' p hp k hk)]; exact hs⟩
   ·exact .inr hx
 have ih := C H' M (pt o.dst v e') h (a.put o.dst cv) w (by
   intro p hp k hk hun
   have hun' : listed.getD k true = false := by
    by_cases hik : i = k
    ·subst hik; rw [hnmi] at hk; cases hk
    ·rw [getD_set_ne true hik] at hun; exact hun
   rcases List.mem_cons.1 hp with rfl | hp
   ·refine (hmem k).2 ⟨?_, hk, hun'⟩
    unfold isModAt at hk
    split at hk
    ·rename_i ho; exact (List.getElem?_eq_some_iff.1 ho).1
    ·cases hk
   ·exact hH1 p hp k hk hun') hH2' ((hSi _ _).2 hS') k1 (R'.put c2 k2)
 refine wpAnyS_mono (S := SH H') (fun s w' hh p hp => hh p (List.mem_cons_of_mem _ hp)) _ _ _ _ ?_
 refine wpAnyS_first hoi' (Region.noSelect_spec hsel) (fun c a w hp => absurd hp (hP c _ w)) ?_ hSi n listed a w hcl (Region.free_spec hoi' q1) hri hy hS' ih
 intro s w' hs hun hh
 rcases hh (modsLeft l listed, w) (by simp [H']) with ⟨k, hk, hsk⟩ | hx
 ·left
  cases hld : isLoad o with
  | false => rfl
  | true =>
   exfalso
   rw [hld] at q3
   simp only [Bool.not_true, Bool.false_or, List.all_eq_true] at q3
   have := reach_spec (l := l) (i := i) (List.range l.length) [] (by simp) k (by simpa using q3 k hk) s hs hsk
   rw [(getD_tf hun).1] at this
   cases this
 ·exact .inr hx
theorem loud_step (hT : TOk P tt) (hl : opsB N l = true) {Q : Exit → Act → World → Prop} {K' : Env → List Blk → Prop} {i n : Nat} {listed : Array Bool} {o : Oper} (hoi : l[i]? = some o) (hq : isQuiet o = false) (hri : i ∈ Region.ready .any l.toArray listed)
  (C : ∀ (H : List (List Nat × World)) (M : MM) (e : Env) (h : List Blk) (a : Act) (w : World), (∀ p ∈ H, ∀ k, isModAt l k = true → (listed.setIfInBounds i true).getD k true = false → k ∈ p.1) → (∀ p ∈ H, ∀ k ∈ p.1, isModAt l k = true) → SH H (listed.setIfInBounds i true) w → K' e h → Rep B X N M e h a w → wpAnyS P .any l.toArray Q (SH H) n (listed.setIfInBounds i true) a w)
  (H : List (List Nat × World)) (M : MM) (e : Env) (h : List Blk) (a : Act) (w : World) (hH1 : ∀ p ∈ H, ∀ k, isModAt l k = true → listed.getD k true = false → k ∈ p.1) (hH2 : ∀ p ∈ H, ∀ k ∈ p.1, isModAt l k = true) (hS : SH H listed w)
  (HK : stepV P tt true l i K' e h) (R : Rep B X N M e h a w) : wpOp P l.toArray Q i (fun a' w' => SH H (listed.setIfInBounds i true) w' ∧ wpAnyS P .any l.toArray Q (SH H) n (listed.setIfInBounds i true) a' w') a w := by
 simp only [stepV] at HK
 rw [hoi] at HK
 dsimp only at HK
 obtain ⟨c1, c2⟩ := opB_c (opsB_c hl hoi)
 have hoi' : l.toArray[i]? = some o := by simpa using hoi
 obtain ⟨e', R', hG⟩ := guard_sound (i := i) R HK
 have hun := (mem_ready.1 hri).1
 have hset : (listed.setIfInBounds i true).getD i false = true := by
  have := (getD_tf hun).2
  simp [this]
 have next : ∀ w' (hx : isMod o = false → Ext w w'), SH H (listed.setIfInBounds i true) w' := fun w' hx p hp => by
  cases hm : isMod o with
  | true => exact .inl ⟨i, hH1 p hp i (by simp [isModAt, hoi, hm]) hun, hset⟩
  | false =>
   rcases hS p hp with ⟨k, hk, hs⟩ | hxx
   ·exact .inl ⟨k, hk, getD_set_true hs⟩
   ·exact .inr (hxx.trans (hx hm))
 have hH1' : ∀ p ∈ H, ∀ k, isModAt l k = true → (listed.setIfInBounds i true).getD k true = false → k ∈ p.1 := fun p hp k hk hu => by
  refine hH1 p hp k hk ?_
  by_cases hik : i = k
  ·subst hik; exact hun
  ·rw [getD_set_ne true hik] at hu; exact hu
 unfold wpOp
 rw [hoi']
 dsimp only
 rcases hG with ⟨hw, hG⟩ | ⟨hw, hG⟩
 ·rw [if_pos hw]
  refine .inl ?_
  unfold runV at hG
  rw [hq] at hG
  simp only [cond_false] at hG
  exact loud_sound hT R' c1 hG Q _ fun v cv e' h' M' w' k1 k2 k3 k4 => ⟨next w' (fun q => k4 q rfl), C H M' _ h' _ w' hH1' hH2 (next w' (fun q => k4 q rfl)) (ptK_iff.1 (V.force_iff.1 ((hforce_iff _ _).1 k1))) (k2.put c2 k3)⟩
 ·rw [if_neg (by rw [hw]; simp)]
  exact ⟨next w (fun _ => Ext.refl w), C H M _ h _ w hH1' hH2 (next w fun _ => Ext.refl w) hG (R'.put c2 rfl)⟩
theorem any_step (hT : TOk P tt) (hl : opsB N l = true) {Q : Exit → Act → World → Prop} {K' : Env → List Blk → Prop} {i n : Nat} {listed : Array Bool} {o : Oper} (hoi : l[i]? = some o) (hri : i ∈ Region.ready .any l.toArray listed)
  (C : ∀ (H : List (List Nat × World)) (M : MM) (e : Env) (h : List Blk) (a : Act) (w : World), (∀ p ∈ H, ∀ k, isModAt l k = true → (listed.setIfInBounds i true).getD k true = false → k ∈ p.1) → (∀ p ∈ H, ∀ k ∈ p.1, isModAt l k = true) → SH H (listed.setIfInBounds i true) w → K' e h → Rep B X N M e h a w → wpAnyS P .any l.toArray Q (SH H) n (listed.setIfInBounds i true) a w)
  (H : List (List Nat × World)) (M : MM) (e : Env) (h : List Blk) (a : Act) (w : World) (hH1 : ∀ p ∈ H, ∀ k, isModAt l k = true → listed.getD k true = false → k ∈ p.1) (hH2 : ∀ p ∈ H, ∀ k ∈ p.1, isModAt l k = true) (hS : SH H listed w)
  (HK : stepV P tt true l i K' e h) (R : Rep B X N M e h a w) : wpOp P l.toArray Q i (fun a' w' => SH H (listed.setIfInBounds i true) w' ∧ wpAnyS P .any l.toArray Q (SH H) n (listed.setIfInBounds i true) a' w') a w := by
 cases hq : isQuiet o with
 | false => exact loud_step hT hl hoi hq hri C H M e h a w hH1 hH2 hS HK R
 | true =>
  simp only [stepV] at HK
  rw [hoi] at HK
  dsimp only at HK
  obtain ⟨c1, c2⟩ := opB_c (opsB_c hl hoi)
  have hoi' : l.toArray[i]? = some o := by simpa using hoi
  obtain ⟨e', R', hG⟩ := guard_sound (i := i) R HK
  have hun := (mem_ready.1 hri).1
  have next : SH H (listed.setIfInBounds i true) w := fun p hp => by
   rcases hS p hp with ⟨k, hk, hs⟩ | hxx
   ·exact .inl ⟨k, hk, getD_set_true hs⟩
   ·exact .inr hxx
  have hH1' : ∀ p ∈ H, ∀ k, isModAt l k = true → (listed.setIfInBounds i true).getD k true = false → k ∈ p.1 := fun p hp k hk hu => by
   refine hH1 p hp k hk ?_
   by_cases hik : i = k
   ·subst hik; exact hun
   ·rw [getD_set_ne true hik] at hu; exact hu
  unfold wpOp
  rw [hoi']
  dsimp only
  rcases hG with ⟨hw, hG⟩ | ⟨hw, hG⟩
  ·rw [if_pos hw]
   refine .inl ?_
   unfold runV at hG
   rw [hq] at hG
   simp only [cond_true] at hG
   obtain ⟨v, cv, k1, k2, k3⟩ := quiet_sound hT R'.inv R'.env c1 hG
   have k1 := ptK_iff.1 (V.force_iff.1 k1)
   unfold Oper.wp
   rw [k3 w (.inr (Ext.refl w))]
   exact ⟨next, C H M _ h _ w hH1' hH2 next k1 (R'.put c2 k2)⟩
  ·rw [if_neg (by rw [hw]; simp)]
   exact ⟨next, C H M _ h _ w hH1' hH2 next hG (R'.put c2 rfl)⟩
theorem tree_sound (hT : TOk P tt) (hl : opsB N l = true) (hsel : Region.noSelect l.toArray = true) {K : Env → List Blk → Prop} {Q : Exit → Act → World → Prop} (hQ : ∀ e h M a w, K e h → Rep B X N M e h a w → Q .normal a w) (hP : ∀ c a w, ¬ Q (.panic c) a w) :
  ∀ (t : OT) (n : Nat) (listed : Array Bool) (rem : Option (List Nat)) (H : List (List Nat × World)) (M : MM) (e : Env) (h : List Blk) (a : Act) (w : World), okT l t n listed rem = true → Closed .any l.toArray listed →
   (∀ p ∈ H, ∀ k, isModAt l k = true → listed.getD k true = false → k ∈ p.1) → (∀ p ∈ H, ∀ k ∈ p.1, isModAt l k = true) → SH H listed w →
   treeV P tt l t K e h → Rep B X N M e h a w → (rem = none → wpAnyS P .any l.toArray Q (SH H) n listed a w) ∧
    ∀ js, rem = some js → (∀ j ∈ js, j ∈ Region.ready .any l.toArray listed) → ∀ j ∈ js, wpOp P l.toArray Q j (fun a' w' => SH H (listed.setIfInBounds j true) w' ∧ wpAnyS P .any l.toArray Q (SH H) (n - 1) (listed.setIfInBounds j true) a' w') a w
 | .done, n, listed, rem, H, M, e, h, a, w, ho, _, _, _, _, HK, R => by
  simp only [okT, Bool.and_eq_true, nbeq] at ho
  obtain ⟨⟨hr, rfl⟩, ho⟩ := ho
  refine ⟨fun _ => ⟨by simpa using ho, hQ e h M a w HK R⟩, fun js hjs => ?_⟩
  rw [hjs] at hr; cases hr
 | .nil, n, listed, rem, H, M, e, h, a, w, ho, _, _, _, _, HK, R => by
  refine ⟨fun hn => ?_, fun js hjs _ j hj => ?_⟩
  ·subst hn; cases ho
  ·subst hjs
   cases js with
   | nil => cases hj
   | cons x xs => cases ho
 | .q i t, n, listed, rem, H, M, e, h, a, w, ho, hcl, hH1, hH2, hS, HK, R => by
  cases n with
  | zero => cases ho
  | succ n =>
   simp only [okT, Bool.and_eq_true] at ho
   obtain ⟨⟨hr, ho1⟩, ho2⟩ := ho
   refine ⟨fun _ => ?_, fun js hjs => by rw [hjs] at hr; cases hr⟩
   unfold qOK at ho1
   split at ho1
   ·rename_i o hoi
    rw [Bool.and_eq_true] at ho1
    have hri : i ∈ Region.ready .any l.toArray listed := by
     have := ho1.2
     simp only [Bool.and_eq_true] at this
     simpa using this.1.2
    exact quiet_step hT hl hsel hP hoi ho1.1 ho1.2 (fun H M e h a w q1 q2 q3 q4 q5 => (tree_sound hT hl hsel hQ hP t n _ none H M e h a w ho2 (hcl.set hri) q1 q2 q3 q4 q5).1 rfl) H M e h a w hcl hH1 hH2 hS HK R
   ·cases ho1
 | .alt i t r, n, listed, rem, H, M, e, h, a, w, ho, hcl, hH1, hH2, hS, HK, R => by
  cases n with
  | zero => cases ho
  | succ n =>
   obtain ⟨HK1, HK2⟩ := treeV_alt HK
   have key : ∀ L, rem.getD (Region.ready .any l.toArray listed) = L → (∀ j ∈ L, j ∈ Region.ready .any l.toArray listed) → L ≠ [] ∧ ∀ j ∈ L, wpOp P l.toArray Q j (fun a' w' => SH H (listed.setIfInBounds j true) w' ∧ wpAnyS P .any l.toArray Q (SH H) n (listed.setIfInBounds j true) a' w') a w := by
    intro L hL hsub
    simp only [okT] at ho
    rw [hL] at ho
    cases L with
    | nil => cases ho
    | cons x xs =>
     simp only [Bool.and_eq_true, nbeq] at ho
     obtain ⟨⟨⟨rfl, hlt⟩, ho2⟩, ho3⟩ := ho
     have hri := hsub x (by simp)
     obtain ⟨o, hoi⟩ : ∃ o, l[x]? = some o := ⟨_, List.getElem?_eq_getElem (by have h9 := hlt; simp [Nat.blt] at h9; omega)⟩
     refine ⟨by simp, fun j hj => ?_⟩
     rcases List.mem_cons.1 hj with rfl | hj
     ·exact any_step hT hl hoi hri (fun H M e h a w q1 q2 q3 q4 q5 => (tree_sound hT hl hsel hQ hP t n _ none H M e h a w ho2 (hcl.set hri) q1 q2 q3 q4 q5).1 rfl) H M e h a w hH1 hH2 hS HK1 R
     ·exact (tree_sound hT hl hsel hQ hP r (n + 1) listed (some xs) H M e h a w ho3 hcl hH1 hH2 hS HK2 R).2 xs rfl (fun j hj => hsub j (by simp [hj])) j hj
   refine ⟨fun hn => ?_, fun js hjs hsub j hj => ?_⟩
   ·subst hn
    obtain ⟨k1, k2⟩ := key _ rfl (fun j hj => hj)
    exact ⟨fun h0 => absurd h0 k1, k2⟩
   ·subst hjs
    exact (key js rfl hsub).2 j hj
end
def depT : List Edge → Nat
 | [] => 0
 | e :: es => bif Region.binds .any e then Nat.lor (Nat.shiftLeft 1 e.on) (depT es) else depT es
def bitsT : List Nat → Nat
 | [] => 0
 | i :: is => Nat.lor (Nat.shiftLeft 1 i) (bitsT is)
def hasT (m d : Nat) : Bool := Nat.beq (Nat.land m d) m
inductive VX where
 | normal
 | exit (id : Nat)
 | ret
abbrev Post := VX → Env → List Blk → Prop
def seqQ (n : Env → List Blk → Prop) (Q : Post) : Post
 | .normal => n
 | .exit id => Q (.exit id)
 | .ret => Q .ret
def blkQ (id : Nat) (Q : Post) : Post
 | .normal => Q .normal
 | .exit i => bif Nat.beq i id then Q .normal else Q (.exit i)
 | .ret => Q .ret
def Weak (e : Env) (h : List Blk) (e' : Env) (h' : List Blk) : Prop :=
 ∀ (B : World) (X : List Nat) (N : Nat) (M : MM) (a : Act) (w : World), Rep B X N M e h a w → ∃ M', Rep B X N M' e' h' a w
structure NextW {α : Type} (mkE : α → Env) (mkH : α → List Blk) (I : α → Prop) (μ : α → Nat) (x : α) (e : Env) (h : List Blk) : Prop where
 ex : ∀ (B : World) (X : List Nat) (N : Nat) (M : MM) (a : Act) (w : World), Rep B X N M e h a w → ∃ x' M', Rep B X N M' (mkE x') (mkH x') a w ∧ I x' ∧ μ x' < μ x
def loopQ {α : Type} (mkE : α → Env) (mkH : α → List Blk) (I : α → Prop) (μ : α → Nat) (Q : Post) (x : α) : Post
 | .normal => NextW mkE mkH I μ x
 | .exit id => Q (.exit id)
 | .ret => Q .ret
structure LoopW (F : Post → Env → List Blk → Prop) (Q : Post) (e : Env) (h : List Blk) : Prop where
 ex : ∃ (α : Type) (mkE : α → Env) (mkH : α → List Blk) (I : α → Prop) (μ : α → Nat), (∀ (B : World) (X : List Nat) (N : Nat) (M : MM) (a : Act) (w : World), Rep B X N M e h a w → ∃ x0 M', Rep B X N M' (mkE x0) (mkH x0) a w ∧ I x0) ∧ ∀ x, I x → F (loopQ mkE mkH I μ Q x) (mkE x) (mkH x)
structure RegD (P : Program) (tt : TT) (l : List Oper) (K : Env → List Blk → Prop) (e : Env) (h : List Blk) : Prop where
 ex : (∃ is, ordOK l is = true ∧ seqV P tt true l is K e h) ∨ (∃ t, treeOK l t = true ∧ treeV P tt l t K e h) ∨ ∃ (t : OT) (S : Env → List Blk → Prop), treeOK l t = true ∧ treeV P tt l t (fun e h => ∃ e0 h0, S e0 h0 ∧ Weak e h e0 h0) e h ∧ ∀ e0 h0, S e0 h0 → K e0 h0
def know (c : Operand) (b : Bool) (e : Env) : Env :=
 match c with
 | .tmp t => (t, .d (.bool b)) :: e
 | _ => e
def wpC (P : Program) (tt : TT) : Code → Post → Env → List Blk → Prop
 | .skip, Q => Q .normal
 | .region _ ⟨l⟩ draw, Q => fun e h => bif draw then RegD P tt l (Q .normal) e h else seqV P tt false l (List.range l.length) (Q .normal) e h
 | .seq x y, Q => wpC P tt x (seqQ (wpC P tt y Q) Q)
 | .cond c x y, Q => fun e h => match ev e c with
  | .d (.bool b) => BIf b (wpC P tt x Q (know c true e) h) (wpC P tt y Q (know c false e) h)
  | _ => False
 | .block id x, Q => wpC P tt x (blkQ id Q)
 | .loop x, Q => LoopW (wpC P tt x) Q
 | .exit id, Q => Q (.exit id)
 | .ret, Q => Q .ret
 | .rangeFunc _ _ _ _, _ => fun _ _ => False
 | .scope _, _ => fun _ _ => False
 | .label _, _ => fun _ _ => False
 | .goto _, _ => fun _ _ => False
 | .refuse _, _ => fun _ _ => False
def codeB (N : Nat) : Code → Bool
 | .skip => true
 | .region _ ⟨l⟩ _ => opsB N l
 | .seq x y => codeB N x && codeB N y
 | .cond c x y => cOK c && codeB N x && codeB N y
 | .block _ x => codeB N x
 | .loop x => codeB N x
 | .exit _ => true
 | .ret => true
 | .rangeFunc _ _ _ _ => true
 | .scope _ => true
 | .label _ => true
 | .goto _ => true
 | .refuse _ => true
def lift (B : World) (X : List Nat) (N : Nat) (Q : Post) : Exit → Act → World → Prop
 | .normal, a, w => ∃ e h M, Q .normal e h ∧ Rep B X N M e h a w
 | .exit id, a, w => ∃ e h M, Q (.exit id) e h ∧ Rep B X N M e h a w
 | .ret, a, w => ∃ e h M, Q .ret e h ∧ Rep B X N M e h a w
 | .goto _, _, _ => False
 | .panic _, _, _ => False
 | .outgrown, _, _ => False
theorem code_sound {P : Program} {tt : TT} (hT : TOk P tt) (hm : P.follows .mixedOrders = true) {B : World} {X : List Nat} {N : Nat} : ∀ (c : Code) (Q : Post) (M : MM) (e : Env) (h : List Blk) (a : Act) (w : World),
  codeB N c = true → wpC P tt c Q e h → Rep B X N M e h a w → c.wp P (lift B X N Q) a w
 | .skip, Q, M, e, h, a, w, _, H, R => wp_skip ⟨e, h, M, H, R⟩
 | .region id ⟨l⟩ draw, Q, M, e, h, a, w, hc, H, R => by
  cases draw with
  | false =>
   have H : seqV P tt false l (List.range l.length) (Q .normal) e h := H
   refine wp_region ?_
   rw [List.size_toArray]
   exact seq_sound hT hc (fun e h M a w hK R => ⟨e, h, M, hK, R⟩) _ M e h a w H R
  | true =>
   refine wp_region_any hm ?_
   refine wpAny_of_S (S := SH []) _ _ _ _ ?_
   have R' : Rep B X N M e h a w.drew := ⟨R.ext.drew, R.inv.ext ((Ext.refl w).drew), fun k => rep_mv (((Ext.refl w).drew).mv R.inv.hi) _ _ (V.inS_all _) (R.env k), R.sz, R.df, R.fr, R.fh⟩
   have hcl : Closed .any l.toArray (Array.replicate l.length false) := by
    intro j o _ hj
    rw [Array.getD_eq_getD_getElem?, Array.getElem?_replicate] at hj
    split at hj <;> simp at hj
   rw [List.size_toArray]
   rcases (H : RegD P tt l (Q .normal) e h).ex with ⟨is, ho, H⟩ | ⟨t, ho, H⟩ | ⟨t, S, ho, H, HK⟩
   ·simp only [ordOK, Bool.and_eq_true, nbeq] at ho
    have := any_sound hT hc ho.1.1 (K := Q .normal) (Q := lift B X N Q) (fun e h M a w hK R => ⟨e, h, M, hK, R⟩) (fun c a w hp => hp) is (Array.replicate l.length false) [] M e h a _ ho.2 hcl (by simp) (by simp) (by intro p hp; cases hp) H R'
    rw [ho.1.2] at this
    exact this
   ·simp only [treeOK, Bool.and_eq_true] at ho
    exact (tree_sound hT hc ho.1 (K := Q .normal) (Q := lift B X N Q) (fun e h M a w hK R => ⟨e, h, M, hK, R⟩) (fun c a w hp => hp) t l.length (Array.replicate l.length false) none [] M e h a _ ho.2 hcl (by simp) (by simp) (by intro p hp; cases hp) H R').1 rfl
   ·simp only [treeOK, Bool.and_eq_true] at ho
    exact (tree_sound hT hc ho.1 (K := fun e h => ∃ e0 h0, S e0 h0 ∧ Weak e h e0 h0) (Q := lift B X N Q) (fun e h M a w hK R => hK.elim fun e0 hK => hK.elim fun h0 hK => (hK.2 _ _ _ _ _ _ R).elim fun M' R' => ⟨e0, h0, M', HK _ _ hK.1, R'⟩) (fun c a w hp => hp) t l.length (Array.replicate l.length false) none [] M e h a _ ho.2 hcl (by simp) (by simp) (by intro p hp; cases hp) H R').1 rfl
 | .seq x y, Q, M, e, h, a, w, hc, H, R => by
  simp only [codeB, Bool.and_eq_true] at hc
  refine wp_seq (wp_mono (code_sound hT hm x (seqQ (wpC P tt y Q) Q) M e h a w hc.1 H R) fun x' a' w' hx => ?_)
  cases x' with
  | normal =>
   obtain ⟨e', h', M', k1, k2⟩ := hx
   exact code_sound hT hm y Q M' e' h' a' w' hc.2 k1 k2
  | exit id => exact hx
  | ret => exact hx
  | goto l => exact hx
  | panic c => exact hx
  | outgrown => exact hx
 | .cond c x y, Q, M, e, h, a, w, hc, H, R => by
  simp only [codeB, Bool.and_eq_true] at hc
  have hev := ev_rep R.env c hc.1.1
  simp only [wpC] at H
  split at H
  ·rename_i b hb
   rw [hb] at hev
   have hcv := rep_bool.1 hev
   have R' : ∀ q, b = q → Rep B X N M (know c q e) h a w := fun q hq => by
    cases c with
    | tmp t => exact R.know (rep_bool.2 (by rw [← hq]; exact hcv))
    | const _ => exact R
    | global _ => exact R
    | func _ => exact R
   refine BIf.elim H (fun hq H => ?_) (fun hq H => ?_)
   ·exact wp_cond_true (by rw [hcv, hq]) (code_sound hT hm x Q M _ h a w hc.1.2 H (R' true hq))
   ·exact wp_cond_false (by rw [hcv, hq]) (code_sound hT hm y Q M _ h a w hc.2 H (R' false hq))
  ·exact H.elim
 | .block id x, Q, M, e, h, a, w, hc, H, R => by
  refine wp_block (wp_mono (code_sound hT hm x (blkQ id Q) M e h a w hc H R) fun x' a' w' hx => ?_)
  cases x' with
  | normal => exact hx
  | exit i =>
   obtain ⟨e', h', M', k1, k2⟩ := hx
   simp only [Exit.inBlock]
   simp only [blkQ] at k1
   by_cases hi : i = id
   ·subst hi
    rw [Nat.beq_refl] at k1
    rw [if_pos rfl]
    exact ⟨e', h', M', k1, k2⟩
   ·have : Nat.beq i id = false := by
     cases hb : Nat.beq i id with
     | false => rfl
     | true => exact absurd (Nat.eq_of_beq_eq_true hb) hi
    rw [this] at k1
    rw [if_neg hi]
    exact ⟨e', h', M', k1, k2⟩
  | ret => exact hx
  | goto l => exact hx
  | panic c => exact hx
  | outgrown => exact hx
 | .loop x, Q, M, e, h, a, w, hc, H, R => by
  obtain ⟨α, mkE, mkH, I, μ, hw0, hround⟩ := (H : LoopW (wpC P tt x) Q e h).ex
  obtain ⟨x0, M0, R0, hI0⟩ := hw0 B X N M a w R
  intro b k cs
  have key : ∀ (n : Nat) (M : MM) (y : α) (a : Act) (w : World), μ y = n → I y → Rep B X N M (mkE y) (mkH y) a w →
    ∃ e' a' w', lift B X N Q e' a' w' ∧ Arrives P (lone (b.at a (.code x :: .inLoop x :: k)) cs w) b k cs e' a' w' := by
   intro n
   induction n using Nat.strongRecOn with
   | _ n ih =>
    intro M y a w hn hI R
    obtain ⟨x', a1, w1, hq, harr⟩ := code_sound hT hm x (loopQ mkE mkH I μ Q y) M (mkE y) (mkH y) a w hc (hround y hI) R b (.inLoop x :: k) cs
    cases x' with
    | normal =>
     obtain ⟨e', h', M', ⟨hnx⟩, k2⟩ := hq
     obtain ⟨y3, M3, R3, hI3, hlt⟩ := hnx B X N M' a1 w1 k2
     obtain ⟨e₂, a₂, w₂, hq₂, harr₂⟩ := ih (μ y3) (hn ▸ hlt) M3 y3 a1 w1 rfl hI3 R3
     exact ⟨e₂, a₂, w₂, hq₂, .of_steps (Steps.trans harr (.one step_inLoop)) harr₂⟩
    | exit id =>
     have hq' : lift B X N Q (.exit id) a1 w1 := hq
     exact ⟨_, a1, w1, hq', .pass (x := .inLoop x) rfl (fun _ _ => .inl (by simp)) harr⟩
    | ret =>
     have hq' : lift B X N Q .ret a1 w1 := hq
     exact ⟨_, a1, w1, hq', .pass (x := .inLoop x) rfl (fun _ _ => .inl (by simp)) harr⟩
    | goto l => exact hq.elim
    | panic c => exact hq.elim
    | outgrown => exact hq.elim
  obtain ⟨e', a', w', hq, harr⟩ := key _ M0 x0 a w rfl hI0 R0
  exact ⟨e', a', w', hq, .of_steps (.one step_loop) harr⟩
 | .exit id, Q, M, e, h, a, w, _, H, R => wp_exit ⟨e, h, M, H, R⟩
 | .ret, Q, M, e, h, a, w, _, H, R => wp_ret ⟨e, h, M, H, R⟩
 | .rangeFunc _ _ _ _, Q, M, e, h, a, w, _, H, R => H.elim
 | .scope _, Q, M, e, h, a, w, _, H, R => H.elim
 | .label _, Q, M, e, h, a, w, _, H, R => H.elim
 | .goto _, Q, M, e, h, a, w, _, H, R => H.elim
 | .refuse _, Q, M, e, h, a, w, _, H, R => H.elim
def cov (e : Env) : Env → Prop
 | [] => True
 | (k, v) :: r => gt e k = v ∧ cov e r
def covH : List Blk → List Blk → Prop
 | _, [] => True
 | [], _ :: _ => False
 | b :: h, b' :: h' => (match b' with | .gone => True | b' => b = b') ∧ covH h h'
mutual
def V.sc (h : List Blk) : V → Bool
 | .own b _ _ => (match h[b]? with | some (.arr _ _ _) => true | _ => false)
 | .pB b _ _ => (match h[b]? with | some (.box _) => true | some (.bld _ _ _) => true | some (.mp _ _) => true | some (.byr _) => true | _ => false)
 | .pL b _ _ _ => (match h[b]? with | some (.arr _ _ _) => true | _ => false)
 | .fn _ caps => V.scs h caps
 | .st fs => V.scs h fs
 | .tup vs => V.scs h vs
 | .top => true
 | .undef => true
 | .d _ => true
 | .nils => true
 | .nilp => true
 | .pX _ => true
def V.scs (h : List Blk) : List V → Bool
 | [] => true
 | v :: vs => v.sc h && V.scs h vs
end
def scE (h : List Blk) : Env → Bool
 | [] => true
 | (_, v) :: r => v.sc h && scE h r
def scH (h : List Blk) : List Blk → Bool
 | [] => true
 | .box v :: r => v.sc h && scH h r
 | .arr _ _ _ :: r => scH h r
 | .gone :: r => scH h r
 | .gho _ _ _ _ _ :: r => (match (h[2]? : Option Blk) with | some (Blk.arr _ _ _) => true | some (Blk.mp _ _) => true | some (Blk.box _) => true | _ => false) && scH h r
 | .pin c _ _ _ :: r => (match (h[c]? : Option Blk) with | some (Blk.arr _ _ _) => true | _ => false) && scH h r
 | .keep e _ :: r => scE h e && scH h r
 | .bld _ _ _ :: r => scH h r
 | .mp _ _ :: r => scH h r
 | .byr _ :: r => scH h r
def live0 (h : List Blk) (b : Nat) : Prop := ∃ k, h[b]? = some k ∧ k.live = true
mutual
theorem sc_inS {h : List Blk} : ∀ v : V, v.sc h = true → v.inS (live0 h)
 | .own b _ _, H => by
  simp only [V.sc] at H
  split at H
  ·rename_i hk; exact ⟨_, hk, rfl⟩
  ·cases H
 | .pB b _ _, H => by
  simp only [V.sc] at H
  split at H
  ·rename_i hk; exact ⟨_, hk, rfl⟩
  ·rename_i hk; exact ⟨_, hk, rfl⟩
  ·rename_i hk; exact ⟨_, hk, rfl⟩
  ·rename_i hk; exact ⟨_, hk, rfl⟩
  ·cases H
 | .pL b _ _ _, H => by
  simp only [V.sc] at H
  split at H
  ·rename_i hk; exact ⟨_, hk, rfl⟩
  ·cases H
 | .fn _ caps, H => scs_inS caps H
 | .st fs, H => scs_inS fs H
 | .tup vs, H => scs_inS vs H
 | .top, _ => trivial
 | .undef, _ => trivial
 | .d _, _ => trivial
 | .nils, _ => trivial
 | .nilp, _ => trivial
 | .pX _, _ => trivial
theorem scs_inS {h : List Blk} : ∀ vs : List V, V.scs h vs = true → V.inSs (live0 h) vs
 | [], _ => trivial
 | v :: vs, H => by
  simp only [V.scs, Bool.and_eq_true] at H
  exact ⟨sc_inS v H.1, scs_inS vs H.2⟩
end
theorem covH_get : ∀ (h h' : List Blk), covH h h' → ∀ (b : Nat) (k : Blk), h'[b]? = some k → ∃ k0, h[b]? = some k0 ∧ (k.live = true → k0 = k)
 | h, [], _, b, k, hk => by simp at hk
 | [], _ :: _, H, b, k, hk => H.elim
 | b0 :: h, b1 :: h', H, 0, k, hk => by
  simp at hk
  subst hk
  refine ⟨b0, rfl, fun hl => ?_⟩
  have := H.1
  cases b1 with
  | gone => cases hl
  | arr _ _ _ => exact this
  | box _ => exact this
  | gho _ _ _ _ _ => exact this
  | pin _ _ _ _ => exact this
  | keep _ _ => exact this
  | bld _ _ _ => exact this
  | mp _ _ => exact this
  | byr _ => exact this
 | b0 :: h, b1 :: h', H, b + 1, k, hk => by
  obtain ⟨k0, h1, h2⟩ := covH_get h h' H.2 b k (by simpa using hk)
  exact ⟨k0, by simpa using h1, h2⟩
theorem scH_get {h0 : List Blk} : ∀ (h : List Blk), scH h0 h = true → ∀ (b : Nat) (v : V), h[b]? = some (.box v) → v.sc h0 = true
 | [], _, b, v, hk => by simp at hk
 | k :: h, H, 0, v, hk => by
  simp at hk
  subst hk
  simp only [scH, Bool.and_eq_true] at H
  exact H.1
 | k :: h, H, b + 1, v, hk => by
  refine scH_get h ?_ b v (by simpa using hk)
  cases k <;> first | exact H | (simp only [scH, Bool.and_eq_true] at H; exact H.2)
theorem scH_gho {h0 : List Blk} : ∀ (h : List Blk), scH h0 h = true → ∀ (b : Nat) (c : Nat → Option Obj) (s g sz : Nat) (t : TypeId), h[b]? = some (.gho c s g sz t) → live0 h0 2
 | [], _, b, c, s, g, sz, t, hk => by simp at hk
 | k :: h, H, 0, c, s, g, sz, t, hk => by
  simp at hk
  subst hk
  simp only [scH, Bool.and_eq_true] at H
  have := H.1
  split at this
  ·rename_i h2
   exact ⟨_, h2, rfl⟩
  ·rename_i h2
   exact ⟨_, h2, rfl⟩
  ·rename_i h2
   exact ⟨_, h2, rfl⟩
  ·cases this
 | k :: h, H, b + 1, c, s, g, sz, t, hk => by
  refine scH_gho h ?_ b c s g sz t (by simpa using hk)
  cases k <;> first | exact H | (simp only [scH, Bool.and_eq_true] at H; exact H.2)
theorem scH_pin {h0 : List Blk} : ∀ (h : List Blk), scH h0 h = true → ∀ (b : Nat) (c g sz : Nat) (t : TypeId), h[b]? = some (.pin c g sz t) → live0 h0 c
 | [], _, b, c, g, sz, t, hk => by simp at hk
 | k :: h, H, 0, c, g, sz, t, hk => by
  simp at hk
  subst hk
  simp only [scH, Bool.and_eq_true] at H
  have := H.1
  split at this
  ·rename_i h2
   exact ⟨_, h2, rfl⟩
  ·cases this
 | k :: h, H, b + 1, c, g, sz, t, hk => by
  refine scH_pin h ?_ b c g sz t (by simpa using hk)
  cases k <;> first | exact H | (simp only [scH, Bool.and_eq_true] at H; exact H.2)
theorem scH_keep {h0 : List Blk} : ∀ (h : List Blk), scH h0 h = true → ∀ (b : Nat) (e : Env) (f : Nat → Value), h[b]? = some (.keep e f) → scE h0 e = true
 | [], _, b, e, f, hk => by simp at hk
 | k :: h, H, 0, e, f, hk => by
  simp at hk
  subst hk
  simp only [scH, Bool.and_eq_true] at H
  exact H.1
 | k :: h, H, b + 1, e, f, hk => by
  refine scH_keep h ?_ b e f (by simpa using hk)
  cases k <;> first | exact H | (simp only [scH, Bool.and_eq_true] at H; exact H.2)
theorem scE_inS {h0 : List Blk} : ∀ (e : Env), scE h0 e = true → inSE (live0 h0) e
 | [], _ => trivial
 | (_, v) :: e, H => by
  simp only [scE, Bool.and_eq_true] at H
  exact ⟨sc_inS v H.1, scE_inS e H.2⟩
theorem scE_get {h0 : List Blk} : ∀ (e : Env), scE h0 e = true → ∀ k, (gt e k).sc h0 = true
 | [], _, k => rfl
 | (j, v) :: e, H, k => by
  simp only [scE, Bool.and_eq_true] at H
  rw [gt_cons]
  split
  ·exact H.1
  ·exact scE_get e H.2 k
theorem cov_get {e : Env} : ∀ (e' : Env), cov e e' → ∀ k, gt e' k = .top ∨ gt e' k = gt e k
 | [], _, k => .inl rfl
 | (j, v) :: e', H, k => by
  rw [gt_cons]
  split
  ·rename_i hj
   subst hj
   exact .inr H.1.symm
  ·exact cov_get e' H.2 k
def cutM : MM → List Blk → MM
 | _, [] => []
 | [], _ :: _ => []
 | m :: M, k :: h => m :: cutM M h
theorem cutM_get : ∀ (M : MM) (h : List Blk) (b : Nat), h.length ≤ M.length → (cutM M h)[b]? = if b < h.length then M[b]? else none
 | M, [], b, _ => by cases M <;> simp [cutM]
 | [], k :: h, b, hl => by simp at hl
 | m :: M, k :: h, 0, _ => by simp [cutM]
 | m :: M, k :: h, b + 1, hl => by
  simp only [cutM, List.getElem?_cons_succ, List.length_cons, Nat.add_lt_add_iff_right]
  exact cutM_get M h b (by simpa using hl)
theorem cutM_take : ∀ (M : MM) (h : List Blk), h.length ≤ M.length → cutM M h = M.take h.length
 | M, [], _ => by cases M <;> rfl
 | [], k :: h, hl => by simp at hl
 | m :: M, k :: h, hl => by simp [cutM, cutM_take M h (by simpa using hl)]
theorem Weak.cov {e : Env} {h : List Blk} {e' : Env} {h' : List Blk} (h1 : cov e e') (h2 : covH h h') (h3 : (scE h' e' && scH h' h' && (match h' with | .gone :: _ => true | _ => false)) = true) : Weak e h e' h' := by
 intro B X N M a w R
 simp only [Bool.and_eq_true] at h3
 obtain ⟨⟨s1, s2⟩, s3⟩ := h3
 have hlen : h'.length ≤ h.length := by
  rcases Nat.lt_or_ge h.length h'.length with hlt | hge
  ·obtain ⟨k, hk⟩ := at_lt hlt
   obtain ⟨k0, hk0, _⟩ := covH_get h h' h2 h.length k hk
   simp at hk0
  ·exact hge
 have hM : h'.length ≤ M.length := by rw [R.inv.len]; exact hlen
 have hO : ∀ b, b ∈ MM.O (cutM M h') → b ∈ M.O := fun b hb => by
  obtain ⟨i, m, hm, hg⟩ := mem_O_get hb
  rw [cutM_get M h' i hM] at hm
  split at hm
  ·exact mem_O hm hg
  ·cases hm
 have mv : Mv (live0 h') w M h w (cutM M h') h' := {
  ext := fun b hb _ => ⟨fun hc => hb (hO b hc), rfl⟩
  ids := fun b g F hS hb => by
   obtain ⟨k, hk, _⟩ := hS
   refine ⟨F, ?_⟩
   rw [cutM_get M h' b hM, if_pos (List.getElem?_eq_some_iff.1 hk).1]
   exact hb
  row := fun b g F arr t _ _ hg => ⟨arr, hg, rfl⟩
  nof := fun b g F hS _ => by
   obtain ⟨k, hk, hl⟩ := hS
   obtain ⟨k0, hk0, hkk⟩ := covH_get h h' h2 b k hk
   rw [hkk hl] at hk0
   simp [nOf, hk, hk0]
  sz := Nat.le_refl _ }
 refine ⟨cutM M h', ⟨R.ext, ⟨?_, fun b k m hk hm => ?_, ?_, fun b k m hk hm hl => ?_, fun g hg => R.inv.hi g (hO g hg)⟩, fun k => ?_, R.sz, R.df, ?_, ?_⟩⟩
 ·rw [cutM_take M h' hM, List.length_take]; omega
 ·rw [cutM_get M h' b hM, if_pos (List.getElem?_eq_some_iff.1 hk).1] at hm
  obtain ⟨k0, hk0, hkk⟩ := covH_get h h' h2 b k hk
  cases hl : k.live with
  | false => cases k <;> first | trivial | cases hl
  | true =>
   obtain rfl := hkk hl
   refine BRep_mv mv ?_ (fun _ _ => rfl) (R.inv.blk b k0 m hk0 hm)
   cases k0 with
   | box v => exact sc_inS v (scH_get h' s2 b v hk)
   | arr _ _ _ => trivial
   | gone => trivial
   | gho c s g sz t => exact scH_gho h' s2 b c s g sz t hk
   | pin c g sz t => exact scH_pin h' s2 b c g sz t hk
   | keep e f => exact scE_inS e (scH_keep h' s2 b e f hk)
   | bld _ _ _ => trivial
   | mp _ _ => trivial
   | byr _ => trivial
 ·rw [cutM_take M h' hM]
  have hsub : List.Sublist (MM.O (M.take h'.length)) M.O := by
   have := O_app (M.take h'.length) (M.drop h'.length)
   rw [List.take_append_drop] at this
   rw [this]
   exact List.sublist_append_left _ _
  exact hsub.nodup R.inv.nd
 ·rw [cutM_get M h' b hM, if_pos (List.getElem?_eq_some_iff.1 hk).1] at hm
  obtain ⟨k0, hk0, hkk⟩ := covH_get h h' h2 b k hk
  exact R.inv.lo b k m (by rw [← hkk hl]; exact hk0) hm hl
 ·rcases cov_get e' h1 k with h | h
  ·rw [h]; trivial
  ·have := R.env k
   rw [← h] at this
   exact rep_mv mv _ _ (sc_inS _ (scE_get e' s1 k)) this
 ·rw [cutM_get M h' 0 hM, if_pos (by cases h' with | nil => cases s3 | cons _ _ => simp)]
  exact R.fr
 ·cases h' with
  | nil => cases s3
  | cons k _ => cases k <;> first | rfl | cases s3
theorem Weak.trans {e e' e'' : Env} {h h' h'' : List Blk} (h1 : Weak e h e' h') (h2 : Weak e' h' e'' h'') : Weak e h e'' h'' := fun B X N M a w R => by
 obtain ⟨M', R'⟩ := h1 B X N M a w R
 exact h2 B X N M' a w R'
theorem Weak.refl (e : Env) (h : List Blk) : Weak e h e h := fun _ _ _ M _ _ R => ⟨M, R⟩
def rnB (h : List Blk) : List (Option Nat) → List Blk → Prop
 | [], [] => True
 | some b :: ρ, k :: bs => b ≠ 0 ∧ h[b]? = some k ∧ (match k with | .arr _ _ _ => True | _ => False) ∧ rnB h ρ bs
 | none :: ρ, .arr _ xs _ :: bs => xs = [] ∧ rnB h ρ bs
 | _, _ => False
def rnO (ρ : List (Option Nat)) (va : V) (j o l : Nat) : Prop :=
 match ρ[j - 1]? with
 | some (some b) => j ≠ 0 ∧ va = .own b o l
 | some none => j ≠ 0 ∧ va = .nils ∧ o = 0 ∧ l = 0
 | none => False
mutual
def rnV (h : List Blk) (ρ : List (Option Nat)) : V → V → Prop
 | va, .own j o l => rnO ρ va j o l
 | va, .d y => va.ext = true ∧ borD h va y
 | va, .st gs => ∃ fs, va = .st fs ∧ rnVs h ρ fs gs
 | va, .nils => va = .nils
 | va, .nilp => va = .nilp
 | va, .pX x => va = .pX x
 | va, .top => (match va with
  | .own _ _ _ => True
  | .nils => True
  | _ => False)
 | _, .undef => False
 | _, .pB _ _ _ => False
 | _, .pL _ _ _ _ => False
 | _, .fn _ _ => False
 | _, .tup _ => False
def rnVs (h : List Blk) (ρ : List (Option Nat)) : List V → List V → Prop
 | fs, [] => fs = []
 | fs, g :: gs => ∃ f fs', fs = f :: fs' ∧ rnV h ρ f g ∧ rnVs h ρ fs' gs
end
def rnT (h : List Blk) (ρ : List (Option Nat)) : V → V → Prop
 | va, .tup gs => ∃ fs, va = .tup fs ∧ okTs fs = true ∧ rnVs h ρ fs gs
 | va, v => va.okc = true ∧ rnV h ρ va v
structure RetOK (h : List Blk) (va v : V) (bs : List Blk) : Prop where
 ex : ∃ ρ : List (Option Nat), rnB h ρ bs ∧ (ρ.filterMap id).Nodup ∧ rnT h ρ va v
def pick (M : MM) : List (Option Nat) → MM
 | [] => []
 | some b :: ρ => M.getD b none :: pick M ρ
 | none :: ρ => none :: pick M ρ
theorem pick_get (M : MM) : ∀ (ρ : List (Option Nat)) (j : Nat), (pick M ρ)[j]? = (ρ[j]?).map fun o => match o with | some b => M.getD b none | none => none
 | [], j => by simp [pick]
 | some b :: ρ, 0 => by simp [pick]
 | none :: ρ, 0 => by simp [pick]
 | some b :: ρ, j + 1 => by simp [pick, pick_get M ρ j]
 | none :: ρ, j + 1 => by simp [pick, pick_get M ρ j]
theorem pick_len (M : MM) : ∀ ρ : List (Option Nat), (pick M ρ).length = ρ.length
 | [] => rfl
 | some b :: ρ => by simp [pick, pick_len M ρ]
 | none :: ρ => by simp [pick, pick_len M ρ]
theorem pick_O {M : MM} {x : Nat} : ∀ ρ : List (Option Nat), x ∈ MM.O (pick M ρ) → ∃ b, some b ∈ ρ ∧ ∃ m, M[b]? = some m ∧ x ∈ mO m
 | [], h => by simp [pick, MM.O] at h
 | some b :: ρ, h => by
  rw [pick, O_cons, List.mem_append] at h
  rcases h with h | h
  ·refine ⟨b, by simp, ?_⟩
   rw [List.getD_eq_getElem?_getD] at h
   cases hm : M[b]? with
   | none => rw [hm] at h; simp [mO] at h
   | some m => rw [hm] at h; exact ⟨m, rfl, by simpa using h⟩
  ·obtain ⟨b', h1, h2⟩ := pick_O ρ h
   exact ⟨b', by simp [h1], h2⟩
 | none :: ρ, h => by
  rw [pick, O_cons, List.mem_append] at h
  rcases h with h | h
  ·simp [mO] at h
  ·obtain ⟨b', h1, h2⟩ := pick_O ρ h
   exact ⟨b', by simp [h1], h2⟩
section
variable {B : World} {X : List Nat} {N : Nat} {M : MM} {e : Env} {h : List Blk} {a : Act} {w : World}
theorem mO_nodup {B : Nat} {w : World} {M : MM} {h : List Blk} (hI : MInv B w M h) {b : Nat} {m : Option (Nat × List Nat)} (hm : M[b]? = some m) : (mO m).Nodup :=
 (List.nodup_append.1 ((List.Perm.nodup_iff (O_perm hm)).1 hI.nd)).1
theorem pick_nodup {B : Nat} (hI : MInv B w M h) : ∀ ρ : List (Option Nat), (ρ.filterMap id).Nodup → (MM.O (pick M ρ)).Nodup
 | [], _ => by simp [pick, MM.O]
 | none :: ρ, hn => by
  rw [pick, O_cons]
  exact pick_nodup hI ρ (by simpa using hn)
 | some b :: ρ, hn => by
  rw [pick, O_cons]
  simp only [List.filterMap_cons, id] at hn
  obtain ⟨h1, h2⟩ := List.nodup_cons.1 hn
  refine List.nodup_append.2 ⟨?_, pick_nodup hI ρ h2, fun x hx y hy e => ?_⟩
  ·rw [List.getD_eq_getElem?_getD]
   cases hm : M[b]? with
   | none => simp [mO]
   | some m => simpa using mO_nodup hI hm
  ·subst e
   obtain ⟨b', h3, m', h4, h5⟩ := pick_O ρ hy
   rw [List.getD_eq_getElem?_getD] at hx
   cases hm : M[b]? with
   | none => rw [hm] at hx; simp [mO] at hx
   | some m =>
    rw [hm] at hx
    have := O_block_inj hI hm h4 (by simpa using hx) h5
    subst this
    exact h1 (List.mem_filterMap.2 ⟨some b', h3, rfl⟩)
theorem rnB_get : ∀ (ρ : List (Option Nat)) (bs : List Blk), rnB h ρ bs → ρ.length = bs.length ∧ ∀ (j : Nat) (k : Blk), bs[j]? = some k →
  (∃ b, ρ[j]? = some (some b) ∧ b ≠ 0 ∧ h[b]? = some k ∧ ∃ n xs dp, k = .arr n xs dp) ∨ (ρ[j]? = some none ∧ ∃ n dp, k = .arr n [] dp)
 | [], [], _ => ⟨rfl, fun j k hk => by simp at hk⟩
 | some b :: ρ, k0 :: bs, H => by
  obtain ⟨h1, h2, h3, h4⟩ := H
  obtain ⟨k1, k2⟩ := rnB_get ρ bs h4
  refine ⟨by simp [k1], fun j k hk => ?_⟩
  cases j with
  | zero =>
   simp at hk
   subst hk
   left
   refine ⟨b, rfl, h1, h2, ?_⟩
   cases k0 with
   | arr n xs dp => exact ⟨n, xs, dp, rfl⟩
   | box _ => exact h3.elim
   | gone => exact h3.elim
   | gho _ _ _ _ _ => exact h3.elim
   | pin _ _ _ _ => exact h3.elim
   | keep _ _ => exact h3.elim
   | bld _ _ _ => exact h3.elim
   | mp _ _ => exact h3.elim
   | byr _ => exact h3.elim
  | succ j => simpa using k2 j k (by simpa using hk)
 | none :: ρ, .arr n xs dp :: bs, H => by
  obtain ⟨rfl, h4⟩ := H
  obtain ⟨k1, k2⟩ := rnB_get ρ bs h4
  refine ⟨by simp [k1], fun j k hk => ?_⟩
  cases j with
  | zero => simp at hk; subst hk; exact .inr ⟨rfl, n, dp, rfl⟩
  | succ j => simpa using k2 j k (by simpa using hk)
 | none :: ρ, .box _ :: bs, H => H.elim
 | none :: ρ, .gone :: bs, H => H.elim
 | none :: ρ, .gho _ _ _ _ _ :: bs, H => H.elim
 | none :: ρ, .pin _ _ _ _ :: bs, H => H.elim
 | none :: ρ, .keep _ _ :: bs, H => H.elim
 | none :: ρ, .bld _ _ _ :: bs, H => H.elim
 | none :: ρ, .mp _ _ :: bs, H => H.elim
 | none :: ρ, .byr _ :: bs, H => H.elim
 | [], _ :: _, H => H.elim
 | none :: _, [], H => H.elim
 | some _ :: _, [], H => H.elim
theorem repD_sub_O {O O' : List Nat} (hs : ∀ b ∈ O', b ∈ O) {x : D} {cs : List Value} (H : repD O w x cs) : repD O' w x cs :=
 repD_mv (fun b hb _ => ⟨fun hc => hb (hs b hc), rfl⟩) x cs H
structure Rn (w : World) (X : List Nat) (M : MM) (h : List Blk) (ρ : List (Option Nat)) (bs : List Blk) (B : Nat) : Prop where
 inv : MInv B w M h
 sub : ∀ x ∈ MM.O (mX X :: pick M ρ), x ∈ M.O
 b : rnB h ρ bs
mutual
theorem repC_rn {B : Nat} {ρ : List (Option Nat)} {bs : List Blk} (S : Rn w X M h ρ bs B) : ∀ (va v : V) (cs : List Value), rnV h ρ va v → repC w M h va cs → repC w (mX X :: pick M ρ) (.gone :: bs) v cs ∧ v.isAgg = va.isAgg
 | va, .own j o l, cs, H, R => by
  simp only [rnV, rnO] at H
  split at H
  ·rename_i b hb
   obtain ⟨hj, rfl⟩ := H
   obtain ⟨cv, rfl, a, cap, h1, h2, h3, h4, h5⟩ := R
   refine ⟨⟨cv, rfl, a, cap, h1, h2, h3, h4, ?_⟩, rfl⟩
   rcases h5 with h5 | ⟨g, F, arr, t, k1, k2, k3, k4⟩
   ·exact .inl h5
   ·obtain ⟨e1, e2⟩ := rnB_get ρ bs S.b
    have hjl : j - 1 < bs.length := by rw [← e1]; exact (List.getElem?_eq_some_iff.1 hb).1
    obtain ⟨k, hk⟩ := at_lt hjl
    have hn : nOf (.gone :: bs) j = nOf h b := by
     have hk' : (Blk.gone :: bs)[j]? = some k := by
      cases j with
      | zero => exact absurd rfl hj
      | succ j => simpa using hk
     rcases e2 _ k hk with ⟨b', q1, q2, q3, _⟩ | ⟨q1, _⟩
     ·rw [hb] at q1
      cases q1
      simp only [nOf, hk', q3]
     ·rw [hb] at q1; cases q1
    refine .inr ⟨g, F, arr, t, ?_, by rw [hn]; exact k2, k3, by rw [hn]; exact k4⟩
    cases j with
    | zero => exact absurd rfl hj
    | succ j =>
     rw [List.getElem?_cons_succ, pick_get]
     simp only [Nat.add_sub_cancel] at hb
     rw [hb, Option.map_some]
     simp [k1]
  ·obtain ⟨hj, rfl, rfl, rfl⟩ := H
   cases R
   exact ⟨⟨_, rfl, none, 0, rfl, Nat.le_refl _, Nat.zero_le _, fun _ => rfl, .inl rfl⟩, rfl⟩
  ·exact H.elim
 | va, .d y, cs, H, R => by
  obtain ⟨h1, h2⟩ := H
  have := borD_sound (X := M.O) S.inv va cs y R (.inr ⟨h1, rfl⟩) h2
  exact ⟨repD_sub_O S.sub this, borD_agg va y h2⟩
 | va, .st gs, cs, H, R => by
  obtain ⟨fs, rfl, H⟩ := H
  exact ⟨repCs_rn S fs gs cs H R, rfl⟩
 | va, .nils, cs, H, R => by cases H; exact ⟨R, rfl⟩
 | va, .nilp, cs, H, R => by cases H; exact ⟨R, rfl⟩
 | va, .pX x, cs, H, R => by
  cases H
  obtain ⟨b, o, ces, e, h1, h2, h3, h4⟩ := R
  exact ⟨⟨b, o, ces, e, fun hc => h1 (S.sub b hc), h2, h3, repD_sub_O S.sub h4⟩, rfl⟩
 | va, .top, cs, H, R => by
  simp only [rnV] at H
  split at H
  ·obtain ⟨cv, rfl, a, cap, rfl, _⟩ := R
   exact ⟨⟨_, rfl, rfl⟩, rfl⟩
  ·cases R
   exact ⟨⟨_, rfl, rfl⟩, rfl⟩
  ·exact H.elim
 | _, .undef, _, H, _ => H.elim
 | _, .pB _ _ _, _, H, _ => H.elim
 | _, .pL _ _ _ _, _, H, _ => H.elim
 | _, .fn _ _, _, H, _ => H.elim
 | _, .tup _, _, H, _ => H.elim
theorem repCs_rn {B : Nat} {ρ : List (Option Nat)} {bs : List Blk} (S : Rn w X M h ρ bs B) : ∀ (fs gs : List V) (cs : List Value), rnVs h ρ fs gs → repCs w M h fs cs → repCs w (mX X :: pick M ρ) (.gone :: bs) gs cs
 | fs, [], cs, H, R => by cases H; exact R
 | fs, g :: gs, cs, H, R => by
  obtain ⟨f, fs', rfl, h1, h2⟩ := H
  obtain ⟨c1, c2, e, k1, k2⟩ := R
  exact ⟨c1, c2, e, (repC_rn S f g c1 h1 k1).1, repCs_rn S fs' gs c2 h2 k2⟩
end
theorem rep1_rn {B : Nat} {ρ : List (Option Nat)} {bs : List Blk} (S : Rn w X M h ρ bs B) {va v : V} {cv : Value} (H : rnV h ρ va v) (R : rep1 w M h va cv) : rep1 w (mX X :: pick M ρ) (.gone :: bs) v cv := by
 unfold rep1 at R ⊢
 split at R
 ·rename_i ha
  obtain ⟨cs, e, R⟩ := R
  obtain ⟨k1, k2⟩ := repC_rn S va v cs H R
  rw [k2, if_pos ha]
  exact ⟨cs, e, k1⟩
 ·rename_i ha
  obtain ⟨k1, k2⟩ := repC_rn S va v [cv] H R
  rw [k2, if_neg ha]
  exact k1
theorem repT_rn {B : Nat} {ρ : List (Option Nat)} {bs : List Blk} (S : Rn w X M h ρ bs B) : ∀ (fs gs : List V) (cs : List Value), rnVs h ρ fs gs → repT w M h fs cs → repT w (mX X :: pick M ρ) (.gone :: bs) gs cs
 | fs, [], cs, H, R => by cases H; exact R
 | fs, g :: gs, cs, H, R => by
  obtain ⟨f, fs', rfl, h1, h2⟩ := H
  obtain ⟨c, cs', rfl, k1, k2⟩ := R
  exact ⟨c, cs', rfl, rep1_rn S h1 k1, repT_rn S fs' gs cs' h2 k2⟩
theorem ret_sound3 (R : Rep B X N M e h a w) {va v : V} {bs : List Blk} {cv : Value} (hv : rep w M h va cv) (H : RetOK h va v bs) :
  ∃ M', MInv B.heap.size w (mX X :: M') (.gone :: bs) ∧ rep w (mX X :: M') (.gone :: bs) v cv ∧ ∀ x ∈ MM.O M', ∃ (b : Nat) (m : Option (Nat × List Nat)) (n : Nat) (xs : List D) (dp : Bool), M[b]? = some m ∧ x ∈ mO m ∧ h[b]? = some (Blk.arr n xs dp) := by
 obtain ⟨⟨ρ, hb, hn, ht⟩⟩ := H
 obtain ⟨e1, e2⟩ := rnB_get ρ bs hb
 have h0 : ∀ b, some b ∈ ρ → b ≠ 0 := fun b hm => by
  obtain ⟨j, hj⟩ := List.getElem?_of_mem hm
  obtain ⟨k, hk⟩ := at_lt (xs := bs) (k := j) (by rw [← e1]; exact (List.getElem?_eq_some_iff.1 hj).1)
  rcases e2 j k hk with ⟨b', q1, q2, _⟩ | ⟨q1, _⟩
  ·rw [hj] at q1; cases q1; exact q2
  ·rw [hj] at q1; cases q1
 have hsub : ∀ x ∈ MM.O (mX X :: pick M ρ), x ∈ M.O := fun x hx => by
  rw [O_cons, List.mem_append] at hx
  rcases hx with hx | hx
  ·exact mem_O R.fr hx
  ·obtain ⟨b, _, m, hm, hx⟩ := pick_O ρ hx
   exact mem_O hm hx
 have S : Rn w X M h ρ bs B.heap.size := ⟨R.inv, hsub, hb⟩
 refine ⟨pick M ρ, ⟨by simp [pick_len, e1], fun j k m hk hm => ?_, ?_, fun j k m hk hm hl => ?_, fun g hg => R.inv.hi g (hsub g hg)⟩, ?_, fun x hx => ?_⟩
 ·cases j with
  | zero => simp at hk; subst hk; trivial
  | succ j =>
   rw [List.getElem?_cons_succ] at hk hm
   rw [pick_get] at hm
   rcases e2 j k hk with ⟨b, q1, q2, q3, n, xs, dp, rfl⟩ | ⟨q1, n, dp, rfl⟩
   ·rw [q1] at hm
    simp only [Option.map_some, Option.some.injEq] at hm
    obtain ⟨m0, hm0⟩ := at_lt (xs := M) (k := b) (by rw [R.inv.len]; exact (List.getElem?_eq_some_iff.1 q3).1)
    have : m = m0 := by rw [← hm]; simp [hm0]
    subst this
    have hB := R.inv.blk b _ _ q3 hm0
    cases m with
    | none => exact hB
    | some p =>
     obtain ⟨g, F⟩ := p
     obtain ⟨arr, t, k1, k2, k3⟩ := hB
     refine ⟨arr, t, k1, k2, ?_⟩
     cases dp with
     | true => exact k3
     | false =>
      rw [if_neg (by simp)] at k3 ⊢
      exact ⟨k3.1, extDe_mv (fun b hb _ => ⟨fun hc => hb (hsub b hc), rfl⟩) xs 0 k3.2⟩
   ·rw [q1] at hm
    simp only [Option.map_some, Option.some.injEq] at hm
    subst hm
    exact rfl
 ·rw [O_cons]
  refine List.nodup_append.2 ⟨mO_nodup R.inv R.fr, pick_nodup R.inv ρ hn, fun x hx y hy e => ?_⟩
  subst e
  obtain ⟨b, hbm, m, hm, hx'⟩ := pick_O ρ hy
  have := O_block_inj R.inv R.fr hm hx hx'
  exact h0 b hbm this
 ·cases j with
  | zero => simp at hk; subst hk; cases hl
  | succ j =>
   rw [List.getElem?_cons_succ] at hk hm
   rw [pick_get] at hm
   rcases e2 j k hk with ⟨b, q1, q2, q3, n, xs, dp, rfl⟩ | ⟨q1, n, dp, rfl⟩
   ·rw [q1] at hm
    simp only [Option.map_some, Option.some.injEq] at hm
    obtain ⟨m0, hm0⟩ := at_lt (xs := M) (k := b) (by rw [R.inv.len]; exact (List.getElem?_eq_some_iff.1 q3).1)
    have : m = m0 := by rw [← hm]; simp [hm0]
    subst this
    exact R.inv.lo b _ _ q3 hm0 rfl
   ·rw [q1] at hm
    simp only [Option.map_some, Option.some.injEq] at hm
    subst hm
    intro g hg
    simp [mO] at hg
 ·cases v with
  | tup gs =>
   obtain ⟨fs, rfl, hok, ht⟩ := ht
   obtain ⟨cvs, rfl, hv'⟩ := rep_tup.1 hv
   exact ⟨cvs, rfl, repT_rn S fs gs cvs ht hv'⟩
  | top => exact trivial
  | undef => exact ht.2.elim
  | own j o l => exact rep1_rn S ht.2 (rep1_of_rep ht.1 hv)
  | d y => exact rep1_rn S ht.2 (rep1_of_rep ht.1 hv)
  | st gs => exact rep1_rn S ht.2 (rep1_of_rep ht.1 hv)
  | nils => exact rep1_rn S ht.2 (rep1_of_rep ht.1 hv)
  | nilp => exact rep1_rn S ht.2 (rep1_of_rep ht.1 hv)
  | pX x => exact rep1_rn S ht.2 (rep1_of_rep ht.1 hv)
  | pB _ _ _ => exact ht.2.elim
  | pL _ _ _ _ => exact ht.2.elim
  | fn _ _ => exact ht.2.elim
 ·obtain ⟨b, hb, m, hm, hxm⟩ := pick_O ρ hx
  obtain ⟨j, hj⟩ := List.getElem?_of_mem hb
  obtain ⟨k, hk⟩ := at_lt (xs := bs) (k := j) (by rw [← e1]; exact (List.getElem?_eq_some_iff.1 hj).1)
  rcases e2 j k hk with ⟨b', q1, q2, q3, n, xs, dp, rfl⟩ | ⟨q1, _⟩
  ·rw [hj] at q1
   cases q1
   exact ⟨b, m, n, xs, dp, hm, hxm, q3⟩
  ·rw [hj] at q1; cases q1
theorem ret_sound (R : Rep B X N M e h a w) {va v : V} {bs : List Blk} {cv : Value} (hv : rep w M h va cv) (H : RetOK h va v bs) :
  ∃ M', MInv B.heap.size w (mX X :: M') (.gone :: bs) ∧ rep w (mX X :: M') (.gone :: bs) v cv := by
 obtain ⟨M', h1, h2, _⟩ := ret_sound3 R hv H
 exact ⟨M', h1, h2⟩
end
def resVs (tt : TT) : List ResultVar → Env → List Blk → (List V → Prop) → Prop
 | [], _, _, K => K []
 | .tmp t :: rs, e, h, K => resVs tt rs e h fun vs => K (gt e t :: vs)
 | .cell a t :: rs, e, h, K => loadV tt t (gt e a) h fun v => resVs tt rs e h fun vs => K (v :: vs)
def retV (tt : TT) (rs : List ResultVar) (e : Env) (h : List Blk) (K : V → Prop) : Prop :=
 resVs tt rs e h fun vs => match vs with
  | [v] => K v
  | vs => bif okTs vs then K (.tup vs) else False
theorem res_sound {P : Program} {tt : TT} (hT : TOk P tt) {B : World} {X : List Nat} {N : Nat} {M : MM} {e : Env} {h : List Blk} {a : Act} {w : World} (R : Rep B X N M e h a w) :
  ∀ (rs : List ResultVar) (K : List V → Prop), resVs tt rs e h K → ∃ (vs : List V) (cvs : List Value), K vs ∧ vs.length = cvs.length ∧ (∀ (i : Nat) (v : V), vs[i]? = some v → ∃ c, cvs[i]? = some c ∧ rep w M h v c) ∧
   (rs.mapM (fun r => (match r with
    | .tmp t => pure (a.tmps.getD t Go.undef)
    | .cell x t => do loadVar t (← asAddr (a.tmps.getD x Go.undef)) : Sem Value))).run P w = .ok cvs w
 | [], K, H => ⟨[], [], H, rfl, fun i v h => by simp at h, rfl⟩
 | .tmp t :: rs, K, H => by
  obtain ⟨vs, cvs, h1, h2, h3, h4⟩ := res_sound hT R rs _ H
  refine ⟨gt e t :: vs, a.tmps.getD t Go.undef :: cvs, h1, by simp [h2], fun i v hi => ?_, ?_⟩
  ·cases i with
   | zero => simp at hi; subst hi; exact ⟨_, rfl, R.env t⟩
   | succ i => simpa using h3 i v (by simpa using hi)
  ·simp only [List.mapM_cons, Sem.run_bind, Sem.run_pure, Result.andThen_ok, h4]
 | .cell x t :: rs, K, H => by
  obtain ⟨v, cv, k1, k2, k3⟩ := load_sound hT R.inv (R.env x) H
  obtain ⟨vs, cvs, h1, h2, h3, h4⟩ := res_sound hT R rs _ k1
  refine ⟨v :: vs, cv :: cvs, h1, by simp [h2], fun i u hi => ?_, ?_⟩
  ·cases i with
   | zero => simp at hi; subst hi; exact ⟨_, rfl, k2⟩
   | succ i => simpa using h3 i u (by simpa using hi)
  ·have hx := R.env x
   have : ∃ ad, a.tmps.getD x Go.undef = .pointer (some ad) := by
    have H : loadV tt t (gt e x) h _ := H
    unfold loadV at H
    split at H
    ·exact H.elim
    ·split at H
     ·rename_i y hy; rw [hy] at hx; obtain ⟨b, o, ces, e1, _⟩ := rep_pX.1 hx; exact ⟨_, e1⟩
     ·rename_i hy; rw [hy] at hx; obtain ⟨g, F, _, e1⟩ := rep_pB.1 hx; rw [pbv_lo (BL H).1] at e1; exact ⟨_, e1⟩
     ·rename_i hy; rw [hy] at hx; obtain ⟨g, F, _, e1⟩ := rep_pL.1 hx; exact ⟨_, e1⟩
     ·exact H.elim
   obtain ⟨ad, had⟩ := this
   have k3' := k3 w (Ext.refl w)
   rw [had] at k3'
   simp only [Instr.loadAt, Instr.sureAddr, Sem.run_bind, Sem.run_pure, Result.andThen_ok] at k3'
   have ha : (asAddr (a.tmps.getD x Go.undef)).run P w = .ok ad w := by rw [had]; rfl
   simp only [List.mapM_cons, Sem.run_bind, Sem.run_pure, Result.andThen_ok, h4, ha, k3']
mutual
def wfD : D → Prop
 | .int k n => inR k n
 | .bool _ => True
 | .str s => s.size ≤ maxLen
 | .st fs => wfDs fs
 | .lst xs => xs.length ≤ maxLen ∧ wfDs xs
 | .hole _ _ _ => True
 | .fnv _ => True
 | .raw _ => True
def wfDs : List D → Prop
 | [] => True
 | x :: xs => wfD x ∧ wfDs xs
end
mutual
theorem repD_wf {O : List Nat} {w : World} : ∀ (x : D) (cs : List Value), repD O w x cs → wfD x
 | .int k n, cs, h => h.2
 | .bool b, cs, h => trivial
 | .str s, cs, h => h.2
 | .hole _ _ _, cs, h => trivial
 | .fnv _, cs, h => trivial
 | .raw _, cs, h => trivial
 | .lst xs, cs, h => by
  obtain ⟨a, cap, n, h1, h2, h3, h4, h5⟩ := h
  exact ⟨Nat.le_trans h2 h3, repDe_wf xs 0 h5⟩
 | .st fs, cs, h => repDs_wf fs cs h
theorem repDs_wf {O : List Nat} {w : World} : ∀ (fs : List D) (cs : List Value), repDs O w fs cs → wfDs fs
 | [], cs, h => trivial
 | f :: fs, cs, h => by
  obtain ⟨c1, c2, e, h1, h2⟩ := h
  exact ⟨repD_wf f c1 h1, repDs_wf fs c2 h2⟩
theorem repDe_wf {O : List Nat} {w : World} {a : Option Addr} {n : Nat} : ∀ (xs : List D) (i : Nat), repDe O w a n xs i → wfDs xs
 | [], i, h => trivial
 | x :: xs, i, h => by
  obtain ⟨⟨b, o, ces, e, h1, h2, h3, h4, h5⟩, h6⟩ := h
  exact ⟨repD_wf x ces h5, repDe_wf xs (i + 1) h6⟩
end
def wfV : V → Prop
 | .d x => wfD x
 | .pX x => wfD x
 | _ => True
def wfVs : List V → Prop
 | [] => True
 | v :: vs => wfV v ∧ wfVs vs
theorem repT_wf {w : World} {M : MM} {h : List Blk} : ∀ (vs : List V) (cs : List Value), repT w M h vs cs → wfVs vs
 | [], _, _ => trivial
 | v :: vs, cs, H => by
  obtain ⟨c, cs', rfl, h1, h2⟩ := H
  refine ⟨?_, repT_wf vs cs' h2⟩
  have := rep1_cells h1
  cases v <;> first
   | trivial
   | exact repD_wf _ _ this
   | (obtain ⟨_, _, ces, _, _, _, _, hr⟩ := this; exact repD_wf _ _ hr)
def argE : Nat → List V → Env
 | _, [] => []
 | i, v :: vs => (i, v) :: argE (i + 1) vs
theorem argE_get (i : Nat) : ∀ (vs : List V) (k : Nat), gt (argE i vs) k = if i ≤ k then (match vs[k - i]? with | some v => v | none => .top) else .top := by
 intro vs
 induction vs generalizing i with
 | nil => intro k; simp [argE, gt]
 | cons v vs ih =>
  intro k
  rw [argE, gt_cons]
  by_cases hk : i = k
  ·subst hk; simp
  ·rw [if_neg hk, ih]
   by_cases hle : i ≤ k
   ·rw [if_pos (by omega), if_pos hle]
    have : k - i = (k - (i + 1)) + 1 := by omega
    rw [this, List.getElem?_cons_succ]
   ·rw [if_neg (by omega), if_neg hle]
def retQ (tt : TT) (rs : List ResultVar) (v : V) (bs : List Blk) : Post
 | .normal => fun e h => retV tt rs e h fun va => RetOK h va v bs
 | .ret => fun e h => retV tt rs e h fun va => RetOK h va v bs
 | .exit _ => fun _ _ => False
theorem run_results {P : Program} {fn : Func} {tmps : Array Value} {w : World} {cvs : List Value}
  (h : (fn.results.toList.mapM (fun r => (match r with
    | .tmp t => pure (tmps.getD t Go.undef)
    | .cell x t => do loadVar t (← asAddr (tmps.getD x Go.undef)) : Sem Value))).run P w = .ok cvs w) :
  (results fn tmps).run P w = .ok (match cvs with | [c] => c | cvs => .tuple cvs.toArray) w := by
 unfold results
 rw [Array.mapM_eq_mapM_toList, Sem.run_bind, Sem.run_map]
 refine (congrArg (fun r => Result.andThen (Result.andThen r _) _) h).trans ?_
 simp only [Result.andThen_ok, Sem.run_pure]
 match cvs with
 | [] => rfl
 | [c] => rfl
 | c :: d :: r => simp
theorem pc_intro {P : Program} {tt : TT} (hT : TOk P tt) (hm : P.follows .mixedOrders = true) {f : FuncId} {fn : Func} {c : Code} (hf : P.funcs[f]? = some fn) (hb : fn.body = some c) (hname : (fn.name == "runtime.NumGoroutine") = false)
  (hN : codeB fn.ntmps c = true) {As : List V} (hA : Nat.ble As.length fn.ntmps = true) {v : V} {bs : List Blk}
  (H : wfVs As → wpC P tt c (retQ tt fn.results.toList v bs) (argE 0 As) [.gone]) : PC P f As v bs := by
 refine ⟨⟨fn, hf, hname, by rw [hb]; rfl⟩, fun w X args hX1 hX2 hargs => ?_⟩
 have hlen : ∀ (vs : List V) (cs : List Value), repT w [mX X] [.gone] vs cs → cs.length = vs.length := by
  intro vs
  induction vs with
  | nil => intro cs H; cases H; rfl
  | cons v vs ih => intro cs H; obtain ⟨c, cs', rfl, _, h2⟩ := H; simp [ih _ h2]
 have hl := hlen As args hargs
 have hA' := Nat.le_of_ble_eq_true hA
 have hO : MM.O [mX X] = X := by rw [O_one, mO_mX]
 have R : Rep w X fn.ntmps [mX X] (argE 0 As) [.gone] { tmps := args.toArray ++ Array.replicate (fn.ntmps - args.toArray.size) Go.undef, defers := [] } w := {
  ext := Ext.refl w
  inv := ⟨rfl, fun b k m hk hm => by
    cases b with
    | zero => simp at hk; subst hk; trivial
    | succ b => simp at hk, by rw [hO]; exact hX1, fun b k m hk hm hl => by
    cases b with
    | zero => simp at hk; subst hk; cases hl
    | succ b => simp at hk, by rw [hO]; exact hX2⟩
  env := fun k => by
   rw [argE_get, if_pos (Nat.zero_le _), Nat.sub_zero]
   split
   ·rename_i v hv
    obtain ⟨cc, k1, k2⟩ := repT_get As args k v hargs hv
    have hk : k < args.length := (List.getElem?_eq_some_iff.1 k1).1
    have : (args.toArray ++ Array.replicate (fn.ntmps - args.toArray.size) Go.undef).getD k Go.undef = cc := by
     rw [Array.getD_eq_getD_getElem?, Array.getElem?_append_left (by simpa using hk)]
     simp [k1]
    dsimp only
    rw [this]
    exact rep_of_rep1 k2
   ·trivial
  sz := by simp; omega
  df := rfl
  fr := rfl
  fh := rfl }
 refine calls_of_wp hf hb (wp_mono (code_sound hT hm c _ _ _ _ _ _ hN (H (repT_wf _ _ hargs)) R) fun x a' w' hx => ?_)
 have fin : ∀ (e : Env) (h : List Blk) (M : MM), retV tt fn.results.toList e h (fun va => RetOK h va v bs) → Rep w X fn.ntmps M e h a' w' →
   a'.defers = [] ∧ ∃ cv, (results fn a'.tmps).run P w' = .ok cv w' ∧ ∃ cv' M', Ending.returned cv = .returned cv' ∧ Ext w w' ∧ MInv w.heap.size w' (mX X :: M') (.gone :: bs) ∧ rep w' (mX X :: M') (.gone :: bs) v cv' := by
  intro e h M hr R'
  obtain ⟨vs, cvs, h1, h2, h3, h4⟩ := res_sound hT R' _ _ hr
  refine ⟨R'.df, _, run_results h4, ?_⟩
  match vs, cvs, h2 with
  | [va], [cv], _ =>
   obtain ⟨c', k1, k2⟩ := h3 0 va rfl
   cases k1
   obtain ⟨M', q1, q2⟩ := ret_sound R' k2 h1
   exact ⟨cv, M', rfl, R'.ext, q1, q2⟩
  | [], [], _ =>
   obtain ⟨M', q1, q2⟩ := ret_sound R' (va := .tup []) (cv := .tuple #[]) ⟨[], rfl, rfl⟩ h1
   exact ⟨_, M', rfl, R'.ext, q1, q2⟩
  | va :: vb :: vs, ca :: cb :: cvs, h2 =>
   dsimp only at h1
   cases hok : okTs (va :: vb :: vs) with
   | false => rw [hok] at h1; exact h1.elim
   | true =>
    rw [hok] at h1
    simp only [cond_true] at h1
    have hall : ∀ (vs : List V) (cs : List Value), vs.length = cs.length → okTs vs = true → (∀ (i : Nat) (v : V), vs[i]? = some v → ∃ c, cs[i]? = some c ∧ rep w' M h v c) → repT w' M h vs cs := by
     intro vs
     induction vs with
     | nil => intro cs hl _ _; cases cs with
      | nil => rfl
      | cons _ _ => simp at hl
     | cons v vs ih =>
      intro cs hl ho hg
      cases cs with
      | nil => simp at hl
      | cons c cs =>
       simp only [okTs, Bool.and_eq_true] at ho
       obtain ⟨c', k1, k2⟩ := hg 0 v rfl
       cases k1
       exact ⟨c, cs, rfl, rep1_of_rep ho.1 k2, ih cs (by simpa using hl) ho.2 fun i u hi => by simpa using hg (i + 1) u (by simpa using hi)⟩
    obtain ⟨M', q1, q2⟩ := ret_sound R' (va := .tup (va :: vb :: vs)) (cv := .tuple (ca :: cb :: cvs).toArray) ⟨_, rfl, hall _ _ h2 hok h3⟩ h1
    exact ⟨_, M', rfl, R'.ext, q1, q2⟩
 cases x with
 | normal => obtain ⟨e, h, M, k1, k2⟩ := hx; exact fin e h M k1 k2
 | ret => obtain ⟨e, h, M, k1, k2⟩ := hx; exact fin e h M k1 k2
 | exit id => obtain ⟨e, h, M, k1, k2⟩ := hx; exact k1.elim
 | goto l => exact hx.elim
 | panic c => exact hx.elim
 | outgrown => exact hx.elim
mutual
def zcV : V → List Value
 | .d (.int k n) => [.int k n]
 | .d (.bool b) => [.bool b]
 | .d (.str s) => [.string s]
 | .nils => [.slice none 0 0]
 | .nilp => [.pointer none]
 | .st fs => zcVs fs
 | _ => []
def zcVs : List V → List Value
 | [] => []
 | f :: fs => zcV f ++ zcVs fs
end
mutual
def zokV : V → Bool
 | .d (.int k n) => decide (k.min ≤ n) && decide (n ≤ k.max)
 | .d (.bool _) => true
 | .d (.str s) => Nat.beq s.size 0
 | .nils => true
 | .nilp => true
 | .st fs => zokVs fs
 | _ => false
def zokVs : List V → Bool
 | [] => true
 | f :: fs => zokV f && zokVs fs
end
def zVal (v : V) : Value := if v.isAgg then .agg (zcV v).toArray else (zcV v).headD Go.undef
mutual
theorem zc_rep {w : World} {M : MM} {h : List Blk} : ∀ v : V, zokV v = true → repC w M h v (zcV v)
 | .d (.int k n), H => by
  simp only [zokV, Bool.and_eq_true, decide_eq_true_eq] at H
  exact ⟨rfl, H⟩
 | .d (.bool b), _ => rfl
 | .d (.str s), H => by
  simp only [zokV, nbeq] at H
  exact ⟨rfl, by omega⟩
 | .nils, _ => rfl
 | .nilp, _ => rfl
 | .st fs, H => zcs_rep fs H
 | .d (.st _), H => by cases H
 | .d (.lst _), H => by cases H
 | .d (.hole _ _ _), H => by cases H
 | .d (.fnv _), H => by cases H
 | .d (.raw _), H => by cases H
 | .top, H => by cases H
 | .undef, H => by cases H
 | .own _ _ _, H => by cases H
 | .pB _ _ _, H => by cases H
 | .pL _ _ _ _, H => by cases H
 | .pX _, H => by cases H
 | .fn _ _, H => by cases H
 | .tup _, H => by cases H
theorem zcs_rep {w : World} {M : MM} {h : List Blk} : ∀ vs : List V, zokVs vs = true → repCs w M h vs (zcVs vs)
 | [], _ => rfl
 | v :: vs, H => by
  simp only [zokVs, Bool.and_eq_true] at H
  exact ⟨_, _, rfl, zc_rep v H.1, zcs_rep vs H.2⟩
end
theorem zVal_rep {w : World} {M : MM} {h : List Blk} (v : V) (H : zokV v = true) : rep1 w M h v (zVal v) := by
 have hr := zc_rep (w := w) (M := M) (h := h) v H
 unfold rep1 zVal
 split
 ·exact ⟨_, rfl, hr⟩
 ·have hl := repC_len v _ hr
  have : (zcV v).length = 1 := by
   rw [hl]
   cases v with
   | d x => cases x <;> first | rfl | cases H
   | st _ => rename_i h; exact absurd rfl h
   | _ => first | rfl | cases H
  match hz : zcV v, this with
  | [c], _ => rw [hz] at hr; exact hr
def tkOf : TypeDesc → TK
 | .int k => .int k
 | .bool => .bool
 | .string => .str
 | .pointer e => .ptr e
 | .slice e => .sl e
 | .struct fs => .strct (fs.toList.map (fun f => (f.offset, f.type)))
 | .array n e => .ar n e
 | .func _ _ _ => .fn
 | _ => .other
theorem tk_ok {d : TypeDesc} {k : TK} (h : tkOf d = k) (hk : k ≠ .other) : TK.ok d k := by
 subst h
 cases d <;> first
  | exact absurd rfl hk
  | trivial
  | rfl
  | exact ⟨rfl, rfl⟩
def tiB (i : TI) : Bool := zokV i.zero && Nat.beq i.zero.size i.size && (i.agg || Nat.beq i.size 1) && (match i.kind with | .other => false | _ => true)
def eqChk (P : Program) (t : Nat) (i : TI) : Bool := bif i.eq then !P.stoodInHeld t && !P.eqGuardType P.depth t && ((P.fieldsOf t).toList.all fun f => f.name != "_") else true
theorem TIok.of {P : Program} {t : Nat} {i : TI} (h1 : ((P.info? t).map fun f => (f.size, f.bytes, f.zero)) = some (i.size, i.bytes, some (zVal i.zero))) (h2 : (P.underlying t).map tkOf = some i.kind) (h3 : tiB i = true) (h4 : eqChk P t i = true) : TIok P t i := by
 obtain ⟨f, hf, hf'⟩ := Option.map_eq_some_iff.1 h1
 obtain ⟨d, hd, hd'⟩ := Option.map_eq_some_iff.1 h2
 simp only [Prod.mk.injEq] at hf'
 obtain ⟨f1, f2, f3⟩ := hf'
 simp only [tiB, Bool.and_eq_true, nbeq, Bool.or_eq_true] at h3
 obtain ⟨⟨⟨z1, z2⟩, z3⟩, z4⟩ := h3
 refine ⟨⟨f, d, zVal i.zero, hf, f1, f2, f3, hd, tk_ok hd' ?_, fun w M h => zVal_rep _ z1, ?_, fun ha => ?_⟩, fun he => ?_⟩
 ·intro e; rw [e] at z4; cases z4
 ·have hr := rep1_cells (zVal_rep (w := default) (M := []) (h := []) i.zero z1)
  have := repC_len _ _ hr
  rw [Array.length_toList] at this
  rw [this, z2]
 ·rcases z3 with z3 | z3
  ·rw [ha] at z3; cases z3
  ·exact z3
 ·unfold eqChk at h4
  rw [he] at h4
  simp only [cond_true, Bool.and_eq_true, Bool.not_eq_true'] at h4
  exact ⟨h4.1.1, h4.1.2, h4.2⟩
def isStruct : Option TypeDesc → Bool
 | some (.struct _) => true
 | _ => false
theorem TIok.ofB {P : Program} {t e : Nat} {i : TI} (h1 : ((P.info? t).map fun f => (f.size, f.bytes, f.zero)) = some (i.size, i.bytes, some (zVal i.zero))) (h2 : isStruct (P.underlying t) = true) (hk : i.kind = .bld e) (h3 : (zokV i.zero && Nat.beq i.zero.size i.size) = true) (h4 : i.eq = false) : TIok P t i := by
 obtain ⟨f, hf, hf'⟩ := Option.map_eq_some_iff.1 h1
 simp only [Prod.mk.injEq] at hf'
 obtain ⟨f1, f2, f3⟩ := hf'
 simp only [Bool.and_eq_true, nbeq] at h3
 obtain ⟨z1, z2⟩ := h3
 cases hd : P.underlying t with
 | none => rw [hd] at h2; cases h2
 | some d =>
  rw [hd] at h2
  cases d <;> first
   | (cases h2; done)
   | skip
  refine ⟨⟨f, _, zVal i.zero, hf, f1, f2, f3, hd, by rw [hk]; exact trivial, fun w M h => zVal_rep _ z1, ?_, fun ha => ?_⟩, fun he => ?_⟩
  ·have hr := rep1_cells (zVal_rep (w := default) (M := []) (h := []) i.zero z1)
   have := repC_len _ _ hr
   rw [Array.length_toList] at this
   rw [this, z2]
  ·exfalso; unfold TI.agg at ha; rw [hk] at ha; cases ha
  ·rw [h4] at he; cases he
inductive TTree where
 | leaf
 | node (l : TTree) (k : Nat) (v : TI) (r : TTree)
def TTree.find : TTree → Nat → Option TI
 | .leaf, _ => none
 | .node l k v r, t => bif Nat.beq t k then some v else bif Nat.ble t k then l.find t else r.find t
def TTree.all (P : Program) : TTree → Prop
 | .leaf => True
 | .node l k v r => l.all P ∧ TIok P k v ∧ r.all P
theorem TTree.ok {P : Program} : ∀ {tr : TTree}, tr.all P → TOk P tr.find
 | .leaf, _, t, i, h => by cases h
 | .node l k v r, H, t, i, h => by
  simp only [TTree.find] at h
  cases hb : Nat.beq t k with
  | true =>
   rw [hb] at h
   cases h
   have := Nat.eq_of_beq_eq_true hb
   subst this
   exact H.2.1
  | false =>
   rw [hb] at h
   simp only [cond_false] at h
   cases hc : Nat.ble t k with
   | true => rw [hc] at h; exact TTree.ok H.1 t i h
   | false => rw [hc] at h; exact TTree.ok H.2.2 t i h
theorem ArW.i64 {raw : Int} {K : Int → Prop} (h : -9223372036854775808 ≤ raw ∧ raw ≤ 9223372036854775807) (H : K raw) : ArW .i64 raw K := ⟨raw, (IntWalk.i64_in _ h).symm, H⟩
theorem ArW.u8 {raw : Int} {K : Int → Prop} (h : 0 ≤ raw ∧ raw ≤ 255) (H : K raw) : ArW .u8 raw K := ⟨raw, (IntWalk.u8_in _ h).symm, H⟩
theorem ArW.u64 {raw : Int} {K : Int → Prop} (h : 0 ≤ raw ∧ raw ≤ 18446744073709551615) (H : K raw) : ArW .u64 raw K := ⟨raw, by simp only [IntKind.wrap, IntKind.bits, IntKind.signed, Bool.false_and, Bool.false_eq_true, if_false, Int.reducePow]; omega, H⟩
theorem ShW.at {p q : Int} {K : Int → Prop} (h : q = p) (hq : 0 < q) (H : K q) : ShW p K := ⟨q, h, hq, H⟩
theorem EqW.at {a b : Nat} {K : Prop} (h : a = b) (H : K) : EqW a b K := ⟨h, H⟩
theorem StW.at {xs : List D} {K : ByteArray → Prop} {s : ByteArray} (h : xs = s.data.toList.map bD) (H : K s) : StW xs K := ⟨s, h, H⟩
theorem ArW.i64e {raw : Int} (z : Int) {K : Int → Prop} (e : raw = z) (h : -9223372036854775808 ≤ z ∧ z ≤ 9223372036854775807) (H : K z) : ArW .i64 raw K := by subst e; exact ArW.i64 h H
theorem ArW.u8e {raw : Int} (z : Int) {K : Int → Prop} (e : raw = z) (h : 0 ≤ z ∧ z ≤ 255) (H : K z) : ArW .u8 raw K := by subst e; exact ArW.u8 h H
theorem NzW.mk' {b : Int} {K : Prop} (h : b ≠ 0) (H : K) : NzW b K := ⟨h, H⟩
theorem IxW.at {i : Int} {xs : List D} {K : D → Prop} {y : D} (h0 : 0 ≤ i) (hy : xs[i.toNat]? = some y) (H : K y) : IxW i xs K := ⟨y, h0, hy, H⟩
theorem IxW.map {α : Type} {f : α → D} {k : Nat} {ys : List α} {K : D → Prop} {y : α} (hy : ys[k]? = some y) (H : K (f y)) : IxW (k : Int) (ys.map f) K := ⟨f y, by omega, by simp [hy], H⟩
theorem IoW.at {i : Int} {n : Nat} {K : Nat → Prop} (h0 : 0 ≤ i) (h : i < (n : Int)) (H : K i.toNat) : IoW i n K := ⟨h0, h, H⟩
theorem EoW.at {k : Nat} {xs : List D} {K : D → Prop} {y : D} (hy : xs[k]? = some y) (H : K y) : EoW k xs K := ⟨y, hy, H⟩
theorem ChW.at {i : Int} {s : ByteArray} {K : UInt8 → Prop} {c : UInt8} (h0 : 0 ≤ i) (hc : s[i.toNat]? = some c) (H : K c) : ChW i s K := ⟨c, h0, hc, H⟩
theorem BnW.at {i : Int} {K : Nat → Prop} (h : 0 ≤ i) (H : K i.toNat) : BnW i K := ⟨h, H⟩
theorem SlW.at {l r n : Nat} {K : Prop} (h1 : l ≤ r) (h2 : r ≤ n) (H : K) : SlW l r n K := ⟨h1, h2, H⟩
theorem SzW.map {α : Type} {f : α → D} {n : Nat} {xs : List α} {K : Prop} (h : ∀ y, (f y).size = n) (H : K) : SzW n (xs.map f) K := ⟨by simp [h], H⟩
theorem CatW.at {a b : ByteArray} {K : Prop} (h : a.size + b.size ≤ maxLen) (H : K) : CatW a b K := ⟨h, H⟩
theorem TkW.at {len : Nat} {xs : List D} {K : Prop} (h : len = xs.length) (H : K) : TkW 0 len xs K := ⟨rfl, h, H⟩
theorem MkW.at {n c : Int} {bytes : Nat} {K : Nat → Prop} (h1 : 0 ≤ n) (h2 : n ≤ c) (h3 : bytes * c ≤ 2 ^ 48) (H : K n.toNat) : MkW n c bytes K := ⟨h1, h2, h3, H⟩
theorem ApW.at {n bytes : Nat} {K : Prop} (h1 : n ≤ maxLen) (h2 : n * bytes ≤ 140737488355328) (H : K) : ApW n bytes K := ⟨h1, h2, H⟩
theorem OffW.at {len n : Nat} {K : Prop} (h : len ≤ n) (H : K) : OffW 0 len n K := ⟨rfl, h, H⟩
theorem FlW.map {α : Type} {f : α → D} {n : Nat} {xs : List α} {K K' : Prop} (h : ∀ y, (f y).flat = true ∧ (f y).size = n) (H : K) : FlW (xs.map f) n K K' := ⟨.inl ⟨by simp [h], H⟩⟩
theorem LtW.at {k n : Nat} {K : Prop} (h : k < n) (H : K) : LtW k n K := ⟨h, H⟩
theorem CallW.use {P : Program} {dr : Bool} {f : FuncId} {vs : List V} {e : Env} {h : List Blk} {K : V → Env → List Blk → Prop} {As : List V} {v : V} {bs : List Blk} (pc : PC P f As v bs) (hb : borVs h vs As)
  (hf : (v.fit (!V.exts vs) && fitBs (!V.exts vs) bs && Nat.ble 1 h.length) = true) (H : K (v.shift (h.length - 1)) e (h ++ shiftBs (h.length - 1) bs)) : CallW P dr f vs e h K := ⟨.inl (.inl ⟨⟨As, v, bs, pc, hb, hf, H⟩⟩)⟩
theorem RetOK.d {h : List Blk} {va : V} {y : D} (h1 : va.okc = true) (h2 : va.ext = true) (h3 : borD h va y) : RetOK h va (.d y) [] := ⟨[], trivial, by simp, h1, h2, h3⟩
theorem RetOK.t {h : List Blk} {fs gs : List V} (h1 : okTs fs = true) (h3 : rnVs h [] fs gs) : RetOK h (.tup fs) (.tup gs) [] := ⟨[], trivial, by simp, fs, rfl, h1, h3⟩
theorem LoopW.go {α : Type} (mkE : α → Env) (mkH : α → List Blk) (I : α → Prop) (μ : α → Nat) (x0 : α) {F : Post → Env → List Blk → Prop} {Q : Post} {e : Env} {h : List Blk} (hw : Weak e h (mkE x0) (mkH x0)) (hI : I x0)
  (hr : ∀ x, I x → F (loopQ mkE mkH I μ Q x) (mkE x) (mkH x)) : LoopW F Q e h := ⟨α, mkE, mkH, I, μ, fun B X N M a w R => (hw B X N M a w R).elim fun M' R' => ⟨x0, M', R', hI⟩, hr⟩
theorem NextW.go {α : Type} {mkE : α → Env} {mkH : α → List Blk} {I : α → Prop} {μ : α → Nat} {x : α} {e : Env} {h : List Blk} (x' : α) (hw : Weak e h (mkE x') (mkH x')) (hI : I x') (hm : μ x' < μ x) : NextW mkE mkH I μ x e h := ⟨fun B X N M a w R => (hw B X N M a w R).elim fun M' R' => ⟨x', M', R', hI, hm⟩⟩
def depM : List Edge → Nat
 | [] => 0
 | e :: es => bif Region.binds .any e then Nat.lor (Nat.shiftLeft 1 e.on) (depM es) else depM es
def prepO : List Oper → Nat → List (Nat × Bool × Nat)
 | [], _ => []
 | o :: l, i => (i, isQuiet o, depM o.after.toList) :: prepO l (i + 1)
def pickO (done : Nat) (q : Bool) : List (Nat × Bool × Nat) → Option Nat
 | [] => none
 | (i, qi, m) :: r => bif (Nat.beq (Nat.land (Nat.shiftRight done i) 1) 0) && (qi || !q) && Nat.beq (Nat.land m done) m then some i else pickO done q r
def ordF (ps : List (Nat × Bool × Nat)) : Nat → Nat → List Nat
 | 0, _ => []
 | n + 1, done => match pickO done true ps with
  | some i => i :: ordF ps n (Nat.lor done (Nat.shiftLeft 1 i))
  | none => match pickO done false ps with
   | some i => i :: ordF ps n (Nat.lor done (Nat.shiftLeft 1 i))
   | none => []
def ordOf (l : List Oper) : List Nat := ordF (prepO l 0) l.length 0
theorem RegD.auto {P : Program} {tt : TT} {l : List Oper} {K : Env → List Blk → Prop} {e : Env} {h : List Blk} (h1 : ordOK l (ordOf l) = true) (H : seqV P tt true l (ordOf l) K e h) : RegD P tt l K e h := ⟨.inl ⟨_, h1, H⟩⟩
theorem RegD.cutS {P : Program} {tt : TT} {l : List Oper} {K : Env → List Blk → Prop} {e : Env} {h : List Blk} (S : Env → List Blk → Prop) (t : OT) (h1 : treeOK l t = true) (H : treeV P tt l t (fun e h => ∃ e0 h0, S e0 h0 ∧ Weak e h e0 h0) e h) (HK : ∀ e0 h0, S e0 h0 → K e0 h0) : RegD P tt l K e h := ⟨.inr (.inr ⟨t, S, h1, H, HK⟩)⟩
theorem RegD.cutT {P : Program} {tt : TT} {l : List Oper} {K : Env → List Blk → Prop} {e : Env} {h : List Blk} (e0 : Env) (h0 : List Blk) (t : OT) (h1 : treeOK l t = true) (H : treeV P tt l t (fun e h => Weak e h e0 h0) e h) (HK : K e0 h0) : RegD P tt l K e h := by
 have he : (fun (e : Env) (h : List Blk) => Weak e h e0 h0) = fun e h => ∃ a b, (a = e0 ∧ b = h0) ∧ Weak e h a b := by
  funext e h
  exact propext ⟨fun k => ⟨e0, h0, ⟨rfl, rfl⟩, k⟩, fun ⟨a, b, ⟨ha, hb⟩, k⟩ => by subst ha; subst hb; exact k⟩
 rw [he] at H
 exact RegD.cutS (fun a b => a = e0 ∧ b = h0) t h1 H (fun a b k => by rw [k.1, k.2]; exact HK)
theorem Weak.adopt {e : Env} {h : List Blk} {k : Nat} (hk : gt e k = .nils) (n : Nat) (dp : Bool) : Weak e h ((k, .own h.length 0 0) :: e) (h ++ [.arr n [] dp]) := by
 intro B X N M a w R
 have hO : MM.O [none] = [] := rfl
 have mv : Mv (fun _ => True) w M h w (M ++ [none]) (h ++ [.arr n [] dp]) := push_mv R.inv.len (Ext.refl w) R.inv.hi (by rw [hO]; simp)
 have R1 := R.step R.ext (R.inv.push R.base (Ext.refl w) (Mn := [none]) (hn := [.arr n [] dp]) rfl (by rw [hO]; simp) (by rw [hO]; simp) (by rw [hO]; simp) (by
  intro b k m hk hm
  cases b with
  | zero => simp at hk hm; subst hk; subst hm; exact rfl
  | succ b => simp at hk)) mv (fr_push R.fr _) (fr_push R.fh _)
 refine ⟨_, R1.know (rep_own.2 ?_)⟩
 have := R.env k
 rw [hk] at this
 rw [rep_nils.1 this]
 exact ⟨none, 0, rfl, Nat.le_refl _, Nat.zero_le _, fun _ => rfl, .inl rfl⟩
theorem ArW.id {k : IntKind} {raw : Int} {K : Int → Prop} (H : ArW k raw K) : ArW k raw K := H
theorem NzW.id {b : Int} {K : Prop} (H : NzW b K) : NzW b K := H
theorem IxW.id {i : Int} {xs : List D} {K : D → Prop} (H : IxW i xs K) : IxW i xs K := H
theorem IoW.id {i : Int} {len : Nat} {K : Nat → Prop} (H : IoW i len K) : IoW i len K := H
theorem EoW.id {k : Nat} {xs : List D} {K : D → Prop} (H : EoW k xs K) : EoW k xs K := H
theorem ChW.id {i : Int} {s : ByteArray} {K : UInt8 → Prop} (H : ChW i s K) : ChW i s K := H
theorem NlW.mk' {n : Nat} {A B A' B' : Prop} (h1 : n = 0 → A') (h2 : B') (w1 : A' → A := by (intro H; (conv => whnf); exact H)) (w2 : B' → B := by (intro H; (conv => whnf); exact H)) : NlW n A B := ⟨fun h => w1 (h1 h), w2 h2⟩
theorem BnW.id {i : Int} {K : Nat → Prop} (H : BnW i K) : BnW i K := H
theorem SlW.id {l r n : Nat} {K : Prop} (H : SlW l r n K) : SlW l r n K := H
theorem LtW.id {k n : Nat} {K : Prop} (H : LtW k n K) : LtW k n K := H
theorem TkW.id {off len : Nat} {xs : List D} {K : Prop} (H : TkW off len xs K) : TkW off len xs K := H
theorem OffW.id {off len n : Nat} {K : Prop} (H : OffW off len n K) : OffW off len n K := H
theorem RegD.id {P : Program} {tt : TT} {l : List Oper} {K : Env → List Blk → Prop} {e : Env} {h : List Blk} (H : RegD P tt l K e h) : RegD P tt l K e h := H
theorem HlW.id {n : Nat} {K : Nat → Nat → Nat → TypeId → Prop} (H : HlW n K) : HlW n K := H
theorem HlW.at {n : Nat} {K : Nat → Nat → Nat → TypeId → Prop} (H : ∀ (g cap sz : Nat) (t : TypeId), (cap = 0 ∨ cap * n < sz) → K g cap sz t) : HlW n K := ⟨H⟩
theorem StW.id {xs : List D} {K : ByteArray → Prop} (H : StW xs K) : StW xs K := H
theorem SzW.id {n : Nat} {xs : List D} {K : Prop} (H : SzW n xs K) : SzW n xs K := H
theorem ApW.id {n bytes : Nat} {K : Prop} (H : ApW n bytes K) : ApW n bytes K := H
theorem FlW.id {xs : List D} {n : Nat} {K K' : Prop} (H : FlW xs n K K') : FlW xs n K K' := H
theorem CallW.id {P : Program} {dr : Bool} {f : FuncId} {vs : List V} {e : Env} {h : List Blk} {K : V → Env → List Blk → Prop} (H : CallW P dr f vs e h K) : CallW P dr f vs e h K := H
def swN (i j b : Nat) : Nat := bif Nat.beq b j then i else bif Nat.beq b i then j else b
mutual
def V.sw (i j : Nat) : V → V
 | .own b o l => .own (swN i j b) o l
 | .pB b p o => .pB (swN i j b) p o
 | .pL b k p o => .pL (swN i j b) k p o
 | .fn f caps => .fn f (V.sws i j caps)
 | .st fs => .st (V.sws i j fs)
 | .tup vs => .tup (V.sws i j vs)
 | .top => .top
 | .undef => .undef
 | .d y => .d y
 | .nils => .nils
 | .nilp => .nilp
 | .pX y => .pX y
def V.sws (i j : Nat) : List V → List V
 | [] => []
 | v :: vs => v.sw i j :: V.sws i j vs
end
def swE (i j : Nat) : Env → Env
 | [] => []
 | (k, v) :: r => (k, v.sw i j) :: swE i j r
def Blk.sw (i j : Nat) : Blk → Blk
 | .box v => .box (v.sw i j)
 | .arr n xs dp => .arr n xs dp
 | .gone => .gone
 | .gho _ _ _ _ _ => .gone
 | .pin c g sz t => .pin (swN i j c) g sz t
 | .keep e f => .keep (swE i j e) f
 | .bld T E bs => .bld T E bs
 | .mp tg es => .mp tg es
 | .byr bs => .byr bs
def swH (i j : Nat) (h : List Blk) : List Blk := ((h.map (Blk.sw i j)).set i ((h.getD j .gone).sw i j)).set j ((h.getD i .gone).sw i j)
theorem gt_sw (i j : Nat) : ∀ (e : Env) (k : Nat), gt (swE i j e) k = (gt e k).sw i j
 | [], k => rfl
 | (q, v) :: r, k => by
  rw [swE, gt_cons, gt_cons, gt_sw i j r k]
  split <;> rfl
theorem swN_j (i j : Nat) : swN i j j = i := by simp [swN]
theorem swN_i {i j : Nat} : swN i j i = j := by
 by_cases h : i = j
 ·subst h; simp [swN]
 ·have : Nat.beq i j = false := by cases hb : Nat.beq i j with | false => rfl | true => exact absurd (Nat.eq_of_beq_eq_true hb) h
  simp [swN, this]
theorem swN_o {i j b : Nat} (h1 : b ≠ i) (h2 : b ≠ j) : swN i j b = b := by
 have a : Nat.beq b j = false := by cases hb : Nat.beq b j with | false => rfl | true => exact absurd (Nat.eq_of_beq_eq_true hb) h2
 have c : Nat.beq b i = false := by cases hb : Nat.beq b i with | false => rfl | true => exact absurd (Nat.eq_of_beq_eq_true hb) h1
 simp [swN, a, c]
theorem swN_swN (i j b : Nat) : swN i j (swN i j b) = b := by
 by_cases h1 : b = i
 ·rw [h1, swN_i, swN_j]
 ·by_cases h2 : b = j
  ·rw [h2, swN_j, swN_i]
  ·rw [swN_o h1 h2, swN_o h1 h2]
theorem swp_get {α : Type} (l : List α) (f : α → α) (z : α) {i j : Nat} (hi : i < l.length) (hj : j < l.length) (b : Nat) : (((l.map f).set i (f (l.getD j z))).set j (f (l.getD i z)))[swN i j b]? = (l[b]?).map f := by
 have e1 : l.getD j z = l[j] := by simp [List.getD, hj]
 have e2 : l.getD i z = l[i] := by simp [List.getD, hi]
 rw [e1, e2]
 by_cases h2 : b = j
 ·subst h2
  rw [swN_j]
  by_cases h1 : i = b
  ·subst h1; simp [hi]
  ·rw [List.getElem?_set_ne (fun e => h1 e.symm), List.getElem?_set_self (by simpa using hi)]
   simp [hj]
 ·by_cases h1 : b = i
  ·subst h1
   rw [swN_i, List.getElem?_set_self (by simpa using hj)]
   simp [hi]
  ·rw [swN_o h1 h2, List.getElem?_set_ne (fun e => h2 e.symm), List.getElem?_set_ne (fun e => h1 e.symm), List.getElem?_map]
section
variable {w : World} {M M' : MM} {h h' : List Blk} {i j : Nat}
structure Sw (i j : Nat) (M M' : MM) (h h' : List Blk) : Prop where
 m : ∀ b, M'[swN i j b]? = M[b]?
 k : ∀ b, h'[swN i j b]? = (h[b]?).map (Blk.sw i j)
 o : ∀ x, x ∈ MM.O M' ↔ x ∈ MM.O M
theorem Sw.nof (S : Sw i j M M' h h') (b : Nat) : nOf h' (swN i j b) = nOf h b := by
 unfold nOf
 rw [S.k b]
 cases h[b]? with
 | none => rfl
 | some k => cases k <;> rfl
theorem Sw.rd (S : Sw i j M M' h h') {x : D} {cs : List Value} (H : repD M.O w x cs) : repD M'.O w x cs := repD_mv (fun b hb _ => ⟨fun hc => hb ((S.o b).1 hc), rfl⟩) x cs H
theorem swn_agg (i j : Nat) : ∀ v : V, (v.sw i j).isAgg = v.isAgg := by intro v; cases v <;> rfl
mutual
theorem repC_sw (S : Sw i j M M' h h') : ∀ (v : V) (cs : List Value), repC w M h v cs → repC w M' h' (v.sw i j) cs
 | .own b o l, cs, H => by
  obtain ⟨cv, e, a, cap, h1, h2, h3, h4, h5⟩ := H
  refine ⟨cv, e, a, cap, h1, h2, h3, h4, ?_⟩
  rcases h5 with h5 | ⟨g, F, arr, t, k1, k2, k3, k4⟩
  ·exact .inl h5
  ·exact .inr ⟨g, F, arr, t, by rw [S.m]; exact k1, by rw [S.nof]; exact k2, k3, by rw [S.nof]; exact k4⟩
 | .pB b p o, cs, H => by
  obtain ⟨g, F, k1, e⟩ := H
  exact ⟨g, F, by rw [S.m]; exact k1, e⟩
 | .pL b k p o, cs, H => by
  obtain ⟨g, F, k1, e⟩ := H
  exact ⟨g, F, by rw [S.m]; exact k1, by rw [S.nof]; exact e⟩
 | .fn f caps, cs, H => by
  obtain ⟨cvs, e, H⟩ := H
  exact ⟨cvs, e, repK_sw S caps cvs H⟩
 | .st fs, cs, H => repCs_sw S fs cs H
 | .tup vs, cs, H => H.elim
 | .top, cs, H => H
 | .undef, cs, H => H
 | .d y, cs, H => S.rd H
 | .nils, cs, H => H
 | .nilp, cs, H => H
 | .pX y, cs, H => by
  obtain ⟨b, o, ces, e, h1, h2, h3, h4⟩ := H
  exact ⟨b, o, ces, e, fun hc => h1 ((S.o b).1 hc), h2, h3, S.rd h4⟩
theorem repCs_sw (S : Sw i j M M' h h') : ∀ (vs : List V) (cs : List Value), repCs w M h vs cs → repCs w M' h' (V.sws i j vs) cs
 | [], cs, H => H
 | v :: vs, cs, H => by
  obtain ⟨c1, c2, e, h1, h2⟩ := H
  exact ⟨c1, c2, e, repC_sw S v c1 h1, repCs_sw S vs c2 h2⟩
theorem repK_sw (S : Sw i j M M' h h') : ∀ (vs : List V) (cs : List Value), repK w M h vs cs → repK w M' h' (V.sws i j vs) cs
 | [], cs, H => H
 | v :: vs, cs, H => by
  obtain ⟨c1, c2, e, h1, h2⟩ := H
  exact ⟨c1, c2, e, repC_sw S v [c1] h1, repK_sw S vs c2 h2⟩
end
theorem rep1_sw (S : Sw i j M M' h h') {v : V} {cv : Value} (H : rep1 w M h v cv) : rep1 w M' h' (v.sw i j) cv := by
 unfold rep1 at H ⊢
 rw [swn_agg]
 split at H
 ·rename_i ha
  rw [if_pos ha]
  obtain ⟨cs, e, H⟩ := H
  exact ⟨cs, e, repC_sw S v cs H⟩
 ·rename_i ha
  rw [if_neg ha]
  exact repC_sw S v [cv] H
theorem repT_sw (S : Sw i j M M' h h') : ∀ (vs : List V) (cs : List Value), repT w M h vs cs → repT w M' h' (V.sws i j vs) cs
 | [], cs, H => H
 | v :: vs, cs, H => by
  obtain ⟨c1, c2, e, h1, h2⟩ := H
  exact ⟨c1, c2, e, rep1_sw S h1, repT_sw S vs c2 h2⟩
theorem rep_sw (S : Sw i j M M' h h') {v : V} {cv : Value} (H : rep w M h v cv) : rep w M' h' (v.sw i j) cv := by
 cases v with
 | tup vs =>
  obtain ⟨cvs, e, H⟩ := H
  exact ⟨cvs, e, repT_sw S vs cvs H⟩
 | top => trivial
 | undef => exact H
 | own b o l => exact rep1_sw S H
 | pB b p o => exact rep1_sw S H
 | pL b i p o => exact rep1_sw S H
 | fn f caps => exact rep1_sw S H
 | st fs => exact rep1_sw S H
 | d y => exact rep1_sw S H
 | nils => exact H
 | nilp => exact H
 | pX y => exact rep1_sw S H
theorem entR_sw (S : Sw i j M M' h h') : ∀ (es : List (D × D)) (l : List MapEntry), entR w M h es l → entR w M' h' es l
 | [], l, H => H
 | (k, v) :: es, l, H => by
  obtain ⟨x, l', e, h1, h2, h3⟩ := H
  exact ⟨x, l', e, rep1_of_rep (v := .d k) rfl (rep_sw S (rep_of_rep1 h1)), rep1_of_rep (v := .d v) rfl (rep_sw S (rep_of_rep1 h2)), entR_sw S es l' h3⟩
theorem BRep_sw (S : Sw i j M M' h h') {k : Blk} {m : Option (Nat × List Nat)} (H : BRep w M h k m) : BRep w M' h' (k.sw i j) m := by
 cases k with
 | gone => trivial
 | gho _ _ _ _ _ => trivial
 | pin c g sz t =>
  rcases H with H | ⟨F, arr, h3, h4, h5⟩
  ·exact .inl H
  ·exact .inr ⟨F, arr, by rw [S.m]; exact h3, h4, h5⟩
 | keep e f =>
  intro k
  rw [gt_sw]
  exact rep_sw S (H k)
 | bld T E bs =>
  cases m with
  | none => exact H
  | some p => exact H
 | byr bs =>
  cases m with
  | none => exact H
  | some p => exact H
 | mp tg es =>
  cases m with
  | none => exact H
  | some p =>
   obtain ⟨g, F⟩ := p
   obtain ⟨hF, hk, ents, ck, h1, h2⟩ := H
   exact ⟨hF, hk, ents, ck, h1, entR_sw S es _ h2⟩
 | arr n xs dp =>
  cases m with
  | none => exact H
  | some p =>
   obtain ⟨g, F⟩ := p
   obtain ⟨arr, t, h1, h2, h3⟩ := H
   refine ⟨arr, t, h1, h2, ?_⟩
   cases dp with
   | true => exact h3
   | false =>
    rw [if_neg (by simp)] at h3 ⊢
    exact ⟨h3.1, extDe_mv (fun b hb _ => ⟨fun hc => hb ((S.o b).1 hc), rfl⟩) _ _ h3.2⟩
 | box v =>
  cases m with
  | none => exact H
  | some p =>
   obtain ⟨g, F⟩ := p
   obtain ⟨e, arr, t, h1, h2⟩ := H
   exact ⟨e, arr, t, h1, repC_sw S v _ h2⟩
end
theorem O_swap : ∀ (M : MM) {i j : Nat} (hi : i < M.length) (hj : j < M.length), List.Perm (MM.O (((M.map id).set i (M.getD j none)).set j (M.getD i none))) M.O := by
 intro M i j hi hj
 rw [List.map_id]
 have e1 : M.getD j none = M[j] := by simp [List.getD, hj]
 have e2 : M.getD i none = M[i] := by simp [List.getD, hi]
 rw [e1, e2]
 by_cases h : i = j
 ·subst h; simp [List.set_set]
 ·have p1 := O_perm (M := M) (b := i) (m := M[i]) (by simp [hi])
  have q0 : (M.set i none)[j]? = some M[j] := by rw [List.getElem?_set_ne h]; simp [hj]
  have p2 := O_perm q0
  have q1 : (M.set i M[j])[j]? = some M[j] := by rw [List.getElem?_set_ne h]; simp [hj]
  have p3 := O_set_perm (M.set i M[j]) j M[j] M[i] q1
  have q2 : ((M.set i M[j]).set j none)[i]? = some M[j] := by rw [List.getElem?_set_ne (fun e => h e.symm), List.getElem?_set_self hi]
  have p4 := O_perm q2
  have e3 : ((M.set i M[j]).set j none).set i none = (M.set i none).set j none := by
   rw [List.set_comm _ _ (fun e => h e.symm), List.set_set, List.set_comm _ _ h]
  rw [e3] at p4
  refine (p3.trans ?_).trans p1.symm
  refine List.Perm.append_left _ ?_
  exact p4.trans p2.symm
theorem Weak.swap {e : Env} {h : List Blk} (i j : Nat) (h1 : (Nat.ble 1 i && Nat.ble 1 j && Nat.ble (i + 1) h.length && Nat.ble (j + 1) h.length) = true) : Weak e h (swE i j e) (swH i j h) := by
 intro B X N M a w R
 simp only [Bool.and_eq_true] at h1
 obtain ⟨⟨⟨i1, j1⟩, i2⟩, j2⟩ := h1
 have i1 := Nat.le_of_ble_eq_true i1
 have j1 := Nat.le_of_ble_eq_true j1
 have i2 : i < h.length := Nat.le_of_ble_eq_true i2
 have j2 : j < h.length := Nat.le_of_ble_eq_true j2
 have i3 : i < M.length := by rw [R.inv.len]; exact i2
 have j3 : j < M.length := by rw [R.inv.len]; exact j2
 have pm := O_swap M i3 j3
 have hm := swp_get M id none i3 j3
 simp only [id] at hm
 have hk := swp_get h (Blk.sw i j) .gone i2 j2
 have S : Sw i j M (((M.map id).set i (M.getD j none)).set j (M.getD i none)) h (swH i j h) := ⟨fun b => by rw [hm b]; simp, hk, fun x => pm.mem_iff⟩
 have z0 : swN i j 0 = 0 := swN_o (by omega) (by omega)
 have back : ∀ (b : Nat) (k : Blk) (m : Option (Nat × List Nat)), (swH i j h)[b]? = some k → (((M.map id).set i (M.getD j none)).set j (M.getD i none))[b]? = some m →
   ∃ k0, h[swN i j b]? = some k0 ∧ k = k0.sw i j ∧ M[swN i j b]? = some m := fun b k m q1 q2 => by
  have r1 := S.k (swN i j b)
  have r2 := S.m (swN i j b)
  rw [swN_swN] at r1 r2
  rw [q1] at r1
  rw [q2] at r2
  obtain ⟨k0, e1, e2⟩ := Option.map_eq_some_iff.1 r1.symm
  exact ⟨k0, e1, e2.symm, r2.symm⟩
 refine ⟨_, ⟨R.ext, ⟨?_, fun b k m q1 q2 => ?_, pm.nodup_iff.2 R.inv.nd, fun b k m q1 q2 ql => ?_, fun g hg => R.inv.hi g ((S.o g).1 hg)⟩, fun k => ?_, R.sz, R.df, ?_, ?_⟩⟩
 ·simp [swH, R.inv.len]
 ·obtain ⟨k0, e1, rfl, e2⟩ := back b k m q1 q2
  exact BRep_sw S (R.inv.blk _ k0 m e1 e2)
 ·obtain ⟨k0, e1, rfl, e2⟩ := back b k m q1 q2
  exact R.inv.lo _ k0 m e1 e2 (by cases k0 <;> first | rfl | exact ql | cases ql)
 ·rw [gt_sw]
  exact rep_sw S (R.env k)
 ·have := S.m 0
  rw [z0] at this
  rw [this]; exact R.fr
 ·have := S.k 0
  rw [z0, R.fh] at this
  exact this
theorem MInv.start {w w' : World} {X : List Nat} (hX1 : X.Nodup) (hX2 : ∀ b ∈ X, b < w'.heap.size) : MInv w.heap.size w' [mX X] [.gone] := by
 have hO : MM.O [mX X] = X := by rw [O_one, mO_mX]
 exact ⟨rfl, fun b k m hk hm => by
    cases b with
    | zero => simp at hk; subst hk; trivial
    | succ b => simp at hk, by rw [hO]; exact hX1, fun b k m hk hm hl => by
    cases b with
    | zero => simp at hk; subst hk; cases hl
    | succ b => simp at hk, by rw [hO]; exact hX2⟩
theorem PC.of {P : Program} {f : FuncId} {As : List V} {v : V} {fn : Func} (h1 : P.funcs[f]? = some fn) (h2 : (fn.name == "runtime.NumGoroutine") = false) (h3 : fn.body.isNone = false)
  (H : ∀ (w : World) (X : List Nat) (args : List Value), repT w [mX X] [.gone] As args → Calls P f args.toArray w fun e w' => ∃ cv, e = .returned cv ∧ Ext w w' ∧ rep w' [mX X] [.gone] v cv) : PC P f As v [] :=
 ⟨⟨fn, h1, h2, h3⟩, fun w X args x1 x2 x3 => (H w X args x3).mono fun e w' ⟨cv, k1, k2, k3⟩ => ⟨cv, [], k1, k2, MInv.start x1 (fun b hb => Nat.lt_of_lt_of_le (x2 b hb) k2.size), k3⟩⟩
theorem str_cells {O : List Nat} {w : World} {a : Option Addr} {n : Nat} {xs : List ByteArray} (H : repDe O w a n (xs.map D.str) 0) (h0 : xs ≠ []) :
  ∃ b o, a = some ⟨b, o, none⟩ ∧ b < w.heap.size ∧ ∀ (j : Nat) x, xs[j]? = some x → w.cell? ⟨b, o + j, none⟩ = some (.string x) := by
 have hg := (repDe_get _ 0).1 H
 obtain ⟨x0, hx0⟩ : ∃ x, xs[0]? = some x := by cases xs with | nil => exact absurd rfl h0 | cons x t => exact ⟨x, rfl⟩
 obtain ⟨b, o, ces, e, -, hb, -⟩ := hg 0 (.str x0) (by rw [List.getElem?_map, hx0]; rfl)
 refine ⟨b, o, e, hb, fun j x hj => ?_⟩
 obtain ⟨b', o', ces', e', q1, q2, q3, q4, q5⟩ := hg j (.str x) (by rw [List.getElem?_map, hj]; rfl)
 rw [e] at e'
 cases e'
 have q4 : n = 1 := q4.symm
 subst q4
 obtain ⟨rfl, -⟩ := q5
 have := q3 0 _ rfl
 rwa [Nat.zero_add, Nat.mul_one, Nat.add_zero] at this
structure Kept (w w' : World) (L L' : List Nat) : Prop where
 os : w'.os = w.os
 tape : w'.tape = w.tape
 output : w'.output = w.output
 size : w.heap.size ≤ w'.heap.size
 ch : ∀ x, x < w.heap.size → x ∉ L → w'.heap[x]? = w.heap[x]?
 nd : L'.Nodup
 sub : ∀ x ∈ L', x ∈ L ∨ w.heap.size ≤ x
 hi : ∀ x ∈ L', x < w'.heap.size
def V.plain : V → Bool
 | .d x => x.flat
 | _ => false
def plains : List V → Bool
 | [] => true
 | v :: vs => v.plain && plains vs
theorem plain_rep {w w' : World} {M M' : MM} {h h' : List Blk} {v : V} {cv : Value} (hp : v.plain = true) (H : rep1 w M h v cv) : rep1 w' M' h' v cv := by
 cases v with
 | d x =>
  have hx : x.flat = true := hp
  have key : ∀ cs : List Value, repC w M h (.d x) cs → repC w' M' h' (.d x) cs := fun cs hc => by
   have := flat_own (O := M.O) (w := w) x cs hx hc
   exact ownD_rep (O := M'.O) (w := w') x [] cs (by simp) (ownD_mv x [] cs (by simp) this)
  unfold rep1 at H ⊢
  split at H
  ·rename_i ha
   rw [if_pos ha]
   obtain ⟨cs, e, H⟩ := H
   exact ⟨cs, e, key cs H⟩
  ·rename_i ha
   rw [if_neg ha]
   exact key _ H
 | _ => cases hp
theorem plains_rep {w w' : World} {M M' : MM} {h h' : List Blk} : ∀ (vs : List V) (cs : List Value), plains vs = true → repT w M h vs cs → repT w' M' h' vs cs
 | [], cs, _, H => H
 | v :: vs, cs, hp, H => by
  simp only [plains, Bool.and_eq_true] at hp
  obtain ⟨c, cs', e, h1, h2⟩ := H
  exact ⟨c, cs', e, plain_rep hp.1 h1, plains_rep vs cs' hp.2 h2⟩
def V.resOK : V → Bool
 | .tup [] => true
 | v => v.plain
theorem res_rep {w w' : World} {M M' : MM} {h h' : List Blk} {v : V} {cv : Value} (hp : v.resOK = true) (H : rep w M h v cv) : rep w' M' h' v cv := by
 cases v with
 | tup vs =>
  cases vs with
  | nil =>
   obtain ⟨cvs, e, H⟩ := H
   exact ⟨cvs, e, H⟩
  | cons _ _ => cases hp
 | d x => exact rep_of_rep1 (plain_rep (v := .d x) hp (rep1_of_rep rfl H))
 | _ => cases hp
end Go.Proofs.YtpdeibhedafcfaaGreatDoor