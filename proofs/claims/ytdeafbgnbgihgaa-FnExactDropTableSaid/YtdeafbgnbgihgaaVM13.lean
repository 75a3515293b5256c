/- The abstract machine, thirteenth part: regions, in the text's order or in any order. Leans on no program. -/
import Derived.Test.YtdeafbgnbgihgaaVM12
set_option linter.unusedSimpArgs false
set_option linter.unusedVariables false
namespace Go.Proofs.Ytdeafbgnbgihgaa
open Go.RowKit

/-- the value is brought to its head before the rest is looked at: without this a walk reckons its slots again and again -/
def V.force (v : V) (K : V → Prop) : Prop :=
  match v with
  | .top => K .top
  | .undef => K .undef
  | .d x => K (.d x)
  | .nils => K .nils
  | .nilp => K .nilp
  | .own b o n => K (.own b o n)
  | .pB b z o => K (.pB b z o)
  | .pL b i z o => K (.pL b i z o)
  | .pX x => K (.pX x)
  | .fn f c => K (.fn f c)
  | .st fs => K (.st fs)
  | .tup vs => K (.tup vs)
theorem V.force_iff {v : V} {K : V → Prop} : v.force K ↔ K v := by cases v <;> exact Iff.rfl
/-- and the memory: block by block -/
def hforce : List Blk → (List Blk → Prop) → Prop
  | [], K => K []
  | b :: r, K => match b with
    | .arr n xs dp => hforce r fun r => K (.arr n xs dp :: r)
    | .box v => v.force fun v => hforce r fun r => K (.box v :: r)
    | .gone => hforce r fun r => K (.gone :: r)
    | .gho c s g sz t => hforce r fun r => K (.gho c s g sz t :: r)
    | .pin c g sz t => hforce r fun r => K (.pin c g sz t :: r)
    | .keep e f => hforce r fun r => K (.keep e f :: r)
    | .bld T E bs => hforce r fun r => K (.bld T E bs :: r)
    | .mp tg es => hforce r fun r => K (.mp tg es :: r)
theorem hforce_iff : ∀ (h : List Blk) (K : List Blk → Prop), hforce h K ↔ K h
  | [], K => Iff.rfl
  | b :: r, K => by
    cases b with
    | box v => exact (V.force_iff (v := v) (K := fun v => hforce r fun r => K (.box v :: r))).trans (hforce_iff r fun r => K (.box v :: r))
    | arr _ _ _ => exact hforce_iff r _
    | gone => exact hforce_iff r _
    | gho _ _ _ _ _ => exact hforce_iff r _
    | pin _ _ _ _ => exact hforce_iff r _
    | keep _ _ => exact hforce_iff r _
    | bld _ _ _ => exact hforce_iff r _
    | mp _ _ => exact hforce_iff r _
def runV (P : Program) (tt : TT) (dr : Bool) (o : Oper) (e : Env) (h : List Blk) (K : Env → List Blk → Prop) : Prop :=
  bif isQuiet o then quietV tt o e h (fun v => v.force fun v => K (pt o.dst v e) h) else loudV P tt dr o e h (fun v e' h' => hforce h' fun h' => v.force fun v => K (pt o.dst v e') h')
def guardV (l : List Oper) (o : Oper) (e : Env) (A S : Env → Prop) : Prop :=
  match o.guard with
  | none => A e
  | some (j, b) => match l[j]? with
    | some oj => match oj.dst with
      | some d => match gt e d with
        | .d (.bool c) => bif b then BIf c (A ((d, .d (.bool true)) :: e)) (S ((d, .d (.bool false)) :: e)) else BIf c (S ((d, .d (.bool true)) :: e)) (A ((d, .d (.bool false)) :: e))
        | .undef => S e
        | _ => False
      | none => False
    | none => False
def stepV (P : Program) (tt : TT) (dr : Bool) (l : List Oper) (i : Nat) (K : Env → List Blk → Prop) (e : Env) (h : List Blk) : Prop :=
  match l[i]? with
  | some o => guardV l o e (fun e => runV P tt dr o e h K) (fun e => K (pt o.dst .undef e) h)
  | none => False
def seqV (P : Program) (tt : TT) (dr : Bool) (l : List Oper) : List Nat → (Env → List Blk → Prop) → Env → List Blk → Prop
  | [], K, e, h => K e h
  | i :: is, K, e, h => stepV P tt dr l i (seqV P tt dr l is K) e h

def opB (N : Nat) (o : Oper) : Bool :=
  o.op.operands.toList.all cOK && (match o.dst with | some d => Nat.ble (d + 1) N | none => true)
def opsB (N : Nat) (l : List Oper) : Bool := l.all (opB N)

section
variable {P : Program} {tt : TT} {B : World} {X : List Nat} {N : Nat} {M : MM} {e : Env} {h : List Blk} {a : Act} {w : World} {l : List Oper}
theorem opB_c {o : Oper} (h : opB N o = true) : (∀ x ∈ o.op.operands, cOK x = true) ∧ ∀ k, o.dst = some k → k < N := by
  simp only [opB, Bool.and_eq_true, List.all_eq_true] at h
  refine ⟨fun x hx => h.1 x (by simpa using hx), fun k hk => ?_⟩
  have := h.2
  rw [hk] at this
  exact Nat.le_of_ble_eq_true this
theorem opsB_c (h : opsB N l = true) {i : Nat} {o : Oper} (hi : l[i]? = some o) : opB N o = true := List.all_eq_true.1 h o (List.mem_of_getElem? hi)

/-- a guard decides -/
theorem guard_sound (R : Rep B X N M e h a w) {i : Nat} {o : Oper} {A S : Env → Prop} (H : guardV l o e A S) :
    ∃ e', Rep B X N M e' h a w ∧ ((Region.wanted o (yielded l.toArray a.tmps) = true ∧ A e') ∨ (Region.wanted o (yielded l.toArray a.tmps) = false ∧ S e')) := by
  unfold guardV at H
  split at H
  · rename_i hg
    exact ⟨e, R, .inl ⟨by simp [Region.wanted, hg], H⟩⟩
  · rename_i j b hg
    split at H
    · rename_i oj hj
      split at H
      · rename_i d hd
        have hy : ∀ c, a.tmps.getD d Go.undef = .bool c → yielded l.toArray a.tmps j = some c := by
          intro c hc
          unfold yielded
          have h1 : (l.toArray[j]?).bind (·.dst) = some d := by simp [hj, hd]
          rw [h1]
          simp only [Option.bind_some]
          have : a.tmps[d]? = some (.bool c) := by
            rw [Array.getD_eq_getD_getElem?] at hc
            cases hx : a.tmps[d]? with
            | none => rw [hx] at hc; cases hc
            | some v => rw [hx] at hc; simp at hc; rw [hc]
          rw [this]
        have hu : a.tmps.getD d Go.undef = Go.undef → yielded l.toArray a.tmps j = none := by
          intro hc
          unfold yielded
          have h1 : (l.toArray[j]?).bind (·.dst) = some d := by simp [hj, hd]
          rw [h1]
          simp only [Option.bind_some]
          rw [Array.getD_eq_getD_getElem?] at hc
          cases hx : a.tmps[d]? with
          | none => rfl
          | some v => rw [hx] at hc; simp at hc; rw [hc]; rfl
        have hE := R.env d
        split at H
        · rename_i c hc
          rw [hc] at hE
          have hE' := rep_bool.1 hE
          have hw : Region.wanted o (yielded l.toArray a.tmps) = (some c == some b) := by simp only [Region.wanted, hg, hy c hE']
          have R' : ∀ q, c = q → Rep B X N M ((d, .d (.bool q)) :: e) h a w := fun q hq => R.know (rep_bool.2 (by rw [hE', hq]))
          cases b with
          | true =>
            refine BIf.elim H (fun hc H => ⟨_, R' true hc, .inl ⟨by rw [hw, hc]; rfl, H⟩⟩) (fun hc H => ⟨_, R' false hc, .inr ⟨by rw [hw, hc]; rfl, H⟩⟩)
          | false =>
            refine BIf.elim H (fun hc H => ⟨_, R' true hc, .inr ⟨by rw [hw, hc]; rfl, H⟩⟩) (fun hc H => ⟨_, R' false hc, .inl ⟨by rw [hw, hc]; rfl, H⟩⟩)
        · rename_i hc
          rw [hc] at hE
          exact ⟨e, R, .inr ⟨by simp only [Region.wanted, hg, hu hE]; rfl, H⟩⟩
        · exact H.elim
      · exact H.elim
    · exact H.elim

theorem seq_sound (hT : TOk P tt) (hl : opsB N l = true) {K : Env → List Blk → Prop} {Q : Exit → Act → World → Prop} (hQ : ∀ e h M a w, K e h → Rep B X N M e h a w → Q .normal a w) :
    ∀ (is : List Nat) (M : MM) (e : Env) (h : List Blk) (a : Act) (w : World), seqV P tt false l is K e h → Rep B X N M e h a w → wpOps P l.toArray Q is a w
  | [], M, e, h, a, w, H, R => hQ e h M a w H R
  | i :: is, M, e, h, a, w, H, R => by
    rw [wpOps_cons]
    simp only [seqV, stepV] at H
    cases ho : l[i]? with
    | none => rw [ho] at H; exact H.elim
    | some o =>
      rw [ho] at H
      obtain ⟨c1, c2⟩ := opB_c (opsB_c hl ho)
      have ho' : l.toArray[i]? = some o := by simpa using ho
      unfold wpOp
      rw [ho']
      dsimp only at H ⊢
      obtain ⟨e', R', H | H⟩ := guard_sound (i := i) R H
      · rw [if_pos H.1]
        refine .inl ?_
        have H := H.2
        unfold runV at H
        cases hq : isQuiet o with
        | true =>
          rw [hq] at H
          simp only [cond_true] at H
          obtain ⟨v, cv, k1, k2, k3⟩ := quiet_sound hT R'.inv R'.env c1 H
          have k1 := V.force_iff.1 k1
          unfold Oper.wp
          rw [k3 w (.inr (Ext.refl w))]
          exact seq_sound hT hl hQ is M _ h _ w k1 (R'.put c2 k2)
        | false =>
          rw [hq] at H
          simp only [cond_false] at H
          exact loud_sound hT R' c1 H Q _ fun v cv e' h' M' w' k1 k2 k3 _ => seq_sound hT hl hQ is M' _ h' _ w' (V.force_iff.1 ((hforce_iff _ _).1 k1)) (k2.put c2 k3)
      · rw [if_neg (by rw [H.1]; simp)]
        exact seq_sound hT hl hQ is M _ h _ w H.2 (R'.put c2 rfl)
end

/-! ### any order -/
section
variable {P : Program} {ops : Array Oper} {Q : Exit → Act → World → Prop} {md : Region.Mode}
/-- what is listed has all before it that it waits for -/
def Closed (md : Region.Mode) (ops : Array Oper) (l : Array Bool) : Prop :=
  ∀ (j : Nat) (o : Oper), ops[j]? = some o → l.getD j false = true → ∀ e ∈ o.after, Region.binds md e = true → l.getD e.on false = true
theorem Closed.set {l : Array Bool} (h : Closed md ops l) {j : Nat} (hj : j ∈ Region.ready md ops l) : Closed md ops (l.setIfInBounds j true) := by
  intro i o ho hi e he hb
  by_cases hij : j = i
  · subst hij
    obtain ⟨_, o', ho', hall⟩ := mem_ready.1 hj
    rw [ho] at ho'
    cases ho'
    exact getD_set_true (hall e he hb)
  · rw [getD_set_ne false hij] at hi
    exact getD_set_true (h i o ho hi e he hb)

def wpAnyS (P : Program) (md : Region.Mode) (ops : Array Oper) (Q : Exit → Act → World → Prop) (S : Array Bool → World → Prop) : Nat → Array Bool → Act → World → Prop
  | 0, listed, a, w => Region.ready md ops listed = [] ∧ Q .normal a w
  | fuel + 1, listed, a, w =>
    (Region.ready md ops listed = [] → Q .normal a w) ∧
    ∀ i ∈ Region.ready md ops listed, wpOp P ops Q i (fun a' w' => S (listed.setIfInBounds i true) w' ∧ wpAnyS P md ops Q S fuel (listed.setIfInBounds i true) a' w') a w
theorem wpAny_of_S {S : Array Bool → World → Prop} : ∀ (fuel : Nat) (listed : Array Bool) (a : Act) (w : World), wpAnyS P md ops Q S fuel listed a w → wpAny P md ops Q fuel listed a w
  | 0, _, _, _, h => h
  | fuel + 1, _, _, _, h => ⟨h.1, fun i hi => wpOp_mono (fun a' w' h' => wpAny_of_S fuel _ a' w' h'.2) (h.2 i hi)⟩
theorem wpAnyS_mono {S S' : Array Bool → World → Prop} (hS : ∀ l w, S l w → S' l w) : ∀ (fuel : Nat) (listed : Array Bool) (a : Act) (w : World), wpAnyS P md ops Q S fuel listed a w → wpAnyS P md ops Q S' fuel listed a w
  | 0, _, _, _, h => h
  | fuel + 1, _, _, _, h => ⟨h.1, fun i hi => wpOp_mono (fun a' w' h' => ⟨hS _ _ h'.1, wpAnyS_mono hS fuel _ a' w' h'.2⟩) (h.2 i hi)⟩

theorem wpAnyS_first {S : Array Bool → World → Prop} {G : World → Prop} {i : Nat} {oi : Oper} {v : Value} (hi : ops[i]? = some oi) (hsel : ∀ (j : Nat) (o : Oper) cs b, ops[j]? = some o → o.op ≠ .select cs b)
    (hQ : ∀ c a w, Q (.panic c) (a.put oi.dst v) w → Q (.panic c) a w)
    (hG : ∀ l w', Closed md ops l → l.getD i true = false → S l w' → G w') (hSi : ∀ l w', S (l.setIfInBounds i true) w' ↔ S l w') :
    ∀ (fuel : Nat) (listed : Array Bool) (a : Act) (w : World), Closed md ops listed →
      (∀ j oj, ops[j]? = some oj → j ≠ i → listed.getD j true = false → (∀ e ∈ oj.after, Region.binds md e = true → e.on ≠ i) → oi.apart ops oj = true) →
      i ∈ Region.ready md ops listed → YieldsIf P ops G oi v a → S listed w →
      wpAnyS P md ops Q S fuel (listed.setIfInBounds i true) (a.put oi.dst v) w → wpAnyS P md ops Q S (fuel + 1) listed a w := by
  intro fuel
  induction fuel with
  | zero =>
    intro listed a w hcl _ hr hy hS H
    refine ⟨fun h => (by rw [h] at hr; cases hr), fun j hj => ?_⟩
    by_cases hji : j = i
    · subst hji; exact hy.wpOp hi (hG _ _ hcl (mem_ready.1 hr).1 hS) ⟨(hSi _ _).2 hS, H⟩
    · have := ready_mono hj hji
      rw [H.1] at this
      cases this
  | succ fuel ih =>
    intro listed a w hcl hfree hr hy hS H
    refine ⟨fun h => (by rw [h] at hr; cases hr), fun j hj => ?_⟩
    by_cases hji : j = i
    · subst hji; exact hy.wpOp hi (hG _ _ hcl (mem_ready.1 hr).1 hS) ⟨(hSi _ _).2 hS, H⟩
    · have h1 := H.2 j (ready_mono hj hji)
      obtain ⟨hjun, oj, hoj, hall⟩ := mem_ready.1 hj
      have hnot : ∀ e ∈ oj.after, Region.binds md e = true → e.on ≠ i := fun e he hb heq => by
        have h1 := hall e he hb
        have h0 := (mem_ready.1 hr).1
        rw [heq] at h1
        rcases Nat.lt_or_ge i listed.size with h' | h'
        · simp [h'] at h0 h1; rw [h0] at h1; cases h1
        · simp [Array.getElem?_eq_none h'] at h1
      have h2 := wpOp_putIf hoj (hfree j oj hoj hji hjun hnot) (fun cs b => hsel i oi cs b hi) (fun cs b => hsel j oj cs b hoj) hQ hy h1
      have hfree' : ∀ k ok, ops[k]? = some ok → k ≠ i → (listed.setIfInBounds j true).getD k true = false →
          (∀ e ∈ ok.after, Region.binds md e = true → e.on ≠ i) → oi.apart ops ok = true := fun k ok hk hki hun hno => by
        refine hfree k ok hk hki ?_ hno
        by_cases hjk : j = k
        · subst hjk; exact hjun
        · rw [getD_set_ne true hjk] at hun; exact hun
      refine wpOp_mono (fun a' w' h3 => ?_) h2
      have hS' : S (listed.setIfInBounds j true) w' := by
        have := h3.2.1
        rw [Array.setIfInBounds_comm _ _ (Ne.symm hji)] at this
        exact (hSi _ _).1 this
      refine ⟨hS', ih (listed.setIfInBounds j true) a' w' (hcl.set hj) hfree' (ready_mono hr (Ne.symm hji)) h3.1 hS' ?_⟩
      rw [Array.setIfInBounds_comm _ _ hji]
      exact h3.2.2
end

/-- which operations wait for number i -/
def reach (l : List Oper) (i : Nat) : List Nat → List Nat → List Nat
  | [], R => R
  | j :: js, R => reach l i js (match l[j]? with
    | some o => if o.after.any (fun e => Region.binds .any e && (e.on == i || R.contains e.on)) then j :: R else R
    | none => R)
theorem reach_spec {l : List Oper} {i : Nat} : ∀ (js R : List Nat), (∀ j ∈ R, ∀ s, Closed .any l.toArray s → s.getD j false = true → s.getD i false = true) →
    ∀ j ∈ reach l i js R, ∀ s, Closed .any l.toArray s → s.getD j false = true → s.getD i false = true
  | [], R, h => h
  | k :: js, R, h => by
    refine reach_spec js _ ?_
    split
    · rename_i o ho
      split
      · rename_i ha
        intro j hj
        rcases List.mem_cons.1 hj with rfl | hj
        · obtain ⟨e, he, hb⟩ := Array.any_eq_true'.1 ha
          simp only [Bool.and_eq_true, Bool.or_eq_true, beq_iff_eq, List.contains_iff_mem] at hb
          intro s hs hj
          have h1 := hs j o (by simpa using ho) hj e he hb.1
          rcases hb.2 with h2 | h2
          · rw [h2] at h1; exact h1
          · exact h e.on h2 s hs h1
        · exact h j hj
      · exact h
    · exact h
def isModAt (l : List Oper) (k : Nat) : Bool :=
  match l[k]? with
  | some o => isMod o
  | none => false
def modsLeft (l : List Oper) (listed : Array Bool) : List Nat := (List.range l.length).filter fun k => isModAt l k && !listed.getD k true
def ordGo (l : List Oper) : List Nat → Array Bool → Bool
  | [], listed => (Region.ready .any l.toArray listed).isEmpty
  | i :: is, listed => (match l[i]? with
    | some o => bif isQuiet o then Region.free .any l.toArray listed i && (Region.ready .any l.toArray listed).contains i && (!isLoad o || (modsLeft l listed).all (fun k => (reach l i (List.range l.length) []).contains k))
      else Region.ready .any l.toArray listed == [i]
    | none => false) && ordGo l is (listed.setIfInBounds i true)
def ordOK (l : List Oper) (is : List Nat) : Bool := Region.noSelect l.toArray && Nat.beq is.length l.length && ordGo l is (Array.replicate l.length false)

def SH (H : List (List Nat × World)) (l : Array Bool) (w : World) : Prop := ∀ p ∈ H, (∃ k ∈ p.1, l.getD k false = true) ∨ Ext p.2 w

section
variable {P : Program} {tt : TT} {B : World} {X : List Nat} {N : Nat} {l : List Oper}
theorem getD_tf {s : Array Bool} {k : Nat} (h : s.getD k true = false) : s.getD k false = false ∧ k < s.size := by
  rcases Nat.lt_or_ge k s.size with hlt | hge
  · exact ⟨by simp [hlt] at h ⊢; exact h, hlt⟩
  · simp [Array.getElem?_eq_none hge] at h
theorem any_sound (hT : TOk P tt) (hl : opsB N l = true) (hsel : Region.noSelect l.toArray = true) {K : Env → List Blk → Prop} {Q : Exit → Act → World → Prop} (hQ : ∀ e h M a w, K e h → Rep B X N M e h a w → Q .normal a w) (hP : ∀ c a w, ¬ Q (.panic c) a w) :
    ∀ (is : List Nat) (listed : Array Bool) (H : List (List Nat × World)) (M : MM) (e : Env) (h : List Blk) (a : Act) (w : World), ordGo l is listed = true → Closed .any l.toArray listed →
      (∀ p ∈ H, ∀ k, isModAt l k = true → listed.getD k true = false → k ∈ p.1) → (∀ p ∈ H, ∀ k ∈ p.1, isModAt l k = true) → SH H listed w →
      seqV P tt true l is K e h → Rep B X N M e h a w → wpAnyS P .any l.toArray Q (SH H) is.length listed a w
  | [], listed, H, M, e, h, a, w, ho, _, _, _, _, HK, R => ⟨by simpa [ordGo] using ho, hQ e h M a w HK R⟩
  | i :: is, listed, H, M, e, h, a, w, ho, hcl, hH1, hH2, hS, HK, R => by
    simp only [ordGo, Bool.and_eq_true] at ho
    simp only [seqV, stepV] at HK
    obtain ⟨ho1, ho2⟩ := ho
    cases hoi : l[i]? with
    | none => rw [hoi] at HK; exact HK.elim
    | some o =>
      rw [hoi] at HK ho1
      dsimp only at HK ho1
      obtain ⟨c1, c2⟩ := opB_c (opsB_c hl hoi)
      have hoi' : l.toArray[i]? = some o := by simpa using hoi
      obtain ⟨e', R', hG⟩ := guard_sound (i := i) R HK
      cases hq : isQuiet o with
      | true =>
        rw [hq] at ho1
        simp only [cond_true, Bool.and_eq_true] at ho1
        obtain ⟨⟨q1, q2⟩, q3⟩ := ho1
        have hri : i ∈ Region.ready .any l.toArray listed := by simpa using q2
        have hnm : isMod o = false := by
          obtain ⟨_, op, _, _, _, _⟩ := o
          unfold isQuiet at hq
          cases op <;> first
            | rfl
            | (cases hq; done)
            | skip
          rename_i c
          obtain ⟨callee, args, ats⟩ := c
          cases callee <;> first
            | rfl
            | (cases hq; done)
            | skip
          rename_i b
          cases b <;> first
            | rfl
            | cases hq
        have hnmi : isModAt l i = false := by simp [isModAt, hoi, hnm]
        -- the value it yields
        have hyv : ∃ v cv, rep w M h v cv ∧ YieldsIf P l.toArray (fun w' => isLoad o = false ∨ Ext w w') o cv a ∧ seqV P tt true l is K (pt o.dst v e') h := by
          rcases hG with ⟨hw, hG⟩ | ⟨hw, hG⟩
          · unfold runV at hG
            rw [hq] at hG
            simp only [cond_true] at hG
            obtain ⟨v, cv, k1, k2, k3⟩ := quiet_sound hT R'.inv R'.env c1 hG
            have k1 := V.force_iff.1 k1
            exact ⟨v, cv, k2, .inl ⟨hw, fun w' hw' => k3 w' hw'⟩, k1⟩
          · exact ⟨.undef, Go.undef, rfl, .inr ⟨hw, rfl⟩, hG⟩
        obtain ⟨v, cv, k2, hy, k1⟩ := hyv
        let H' : List (List Nat × World) := (modsLeft l listed, w) :: H
        have hS' : SH H' listed w := by
          intro p hp
          rcases List.mem_cons.1 hp with rfl | hp
          · exact .inr (Ext.refl w)
          · exact hS p hp
        have hmem : ∀ k, k ∈ modsLeft l listed ↔ k < l.length ∧ isModAt l k = true ∧ listed.getD k true = false := fun k => by
          simp only [modsLeft, List.mem_filter, List.mem_range, Bool.and_eq_true, Bool.not_eq_true']
        have hH2' : ∀ p ∈ H', ∀ k ∈ p.1, isModAt l k = true := by
          intro p hp k hk
          rcases List.mem_cons.1 hp with rfl | hp
          · exact ((hmem k).1 hk).2.1
          · exact hH2 p hp k hk
        have hset : ∀ (s : Array Bool) (k : Nat), isModAt l k = true → (s.setIfInBounds i true).getD k false = s.getD k false := fun s k hk => getD_set_ne false (fun e => by subst e; rw [hnmi] at hk; cases hk)
        have hSi : ∀ s w', SH H' (s.setIfInBounds i true) w' ↔ SH H' s w' := fun s w' => by
          constructor
          · intro hh p hp
            rcases hh p hp with ⟨k, hk, hs⟩ | hx
            · exact .inl ⟨k, hk, by rw [hset s k (hH2' p hp k hk)] at hs; exact hs⟩
            · exact .inr hx
          · intro hh p hp
            rcases hh p hp with ⟨k, hk, hs⟩ | hx
            · exact .inl ⟨k, hk, by rw [hset s k (hH2' p hp k hk)]; exact hs⟩
            · exact .inr hx
        have ih := any_sound hT hl hsel hQ hP is (listed.setIfInBounds i true) H' M (pt o.dst v e') h (a.put o.dst cv) w ho2 (hcl.set hri) (by
            intro p hp k hk hun
            have hun' : listed.getD k true = false := by
              by_cases hik : i = k
              · subst hik; rw [hnmi] at hk; cases hk
              · rw [getD_set_ne true hik] at hun; exact hun
            rcases List.mem_cons.1 hp with rfl | hp
            · refine (hmem k).2 ⟨?_, hk, hun'⟩
              unfold isModAt at hk
              split at hk
              · rename_i ho; exact (List.getElem?_eq_some_iff.1 ho).1
              · cases hk
            · exact hH1 p hp k hk hun') hH2' ((hSi _ _).2 hS') k1 (R'.put c2 k2)
        refine wpAnyS_mono (S := SH H') (fun s w' hh p hp => hh p (List.mem_cons_of_mem _ hp)) _ _ _ _ ?_
        refine wpAnyS_first hoi' (Region.noSelect_spec hsel) (fun c a w hp => absurd hp (hP c _ w)) ?_ hSi is.length listed a w hcl (Region.free_spec hoi' q1) hri hy hS' ih
        intro s w' hs hun hh
        rcases hh (modsLeft l listed, w) (by simp [H']) with ⟨k, hk, hsk⟩ | hx
        · left
          cases hld : isLoad o with
          | false => rfl
          | true =>
            exfalso
            rw [hld] at q3
            simp only [Bool.not_true, Bool.false_or, List.all_eq_true] at q3
            have := reach_spec (l := l) (i := i) (List.range l.length) [] (by simp) k (by simpa using q3 k hk) s hs hsk
            rw [(getD_tf hun).1] at this
            cases this
        · exact .inr hx
      | false =>
        rw [hq] at ho1
        simp only [cond_false, beq_iff_eq] at ho1
        have hri : i ∈ Region.ready .any l.toArray listed := by rw [ho1]; simp
        have hun := (mem_ready.1 hri).1
        have hset : (listed.setIfInBounds i true).getD i false = true := by
          have := (getD_tf hun).2
          simp [this]
        have next : ∀ w' (hx : isMod o = false → Ext w w'), SH H (listed.setIfInBounds i true) w' := fun w' hx p hp => by
          cases hm : isMod o with
          | true => exact .inl ⟨i, hH1 p hp i (by simp [isModAt, hoi, hm]) hun, hset⟩
          | false =>
            rcases hS p hp with ⟨k, hk, hs⟩ | hxx
            · exact .inl ⟨k, hk, getD_set_true hs⟩
            · exact .inr (hxx.trans (hx hm))
        have hH1' : ∀ p ∈ H, ∀ k, isModAt l k = true → (listed.setIfInBounds i true).getD k true = false → k ∈ p.1 := fun p hp k hk hu => by
          refine hH1 p hp k hk ?_
          by_cases hik : i = k
          · subst hik; exact hun
          · rw [getD_set_ne true hik] at hu; exact hu
        refine ⟨fun h0 => (by rw [h0] at hri; cases hri), fun j hj => ?_⟩
        rw [ho1] at hj
        obtain rfl : j = i := by simpa using hj
        unfold wpOp
        rw [hoi']
        dsimp only
        rcases hG with ⟨hw, hG⟩ | ⟨hw, hG⟩
        · rw [if_pos hw]
          refine .inl ?_
          unfold runV at hG
          rw [hq] at hG
          simp only [cond_false] at hG
          exact loud_sound hT R' c1 hG Q _ fun v cv e' h' M' w' k1 k2 k3 k4 => ⟨next w' (fun q => k4 q rfl), any_sound hT hl hsel hQ hP is _ H M' _ h' _ w' ho2 (hcl.set hri) hH1' hH2 (next w' (fun q => k4 q rfl)) (V.force_iff.1 ((hforce_iff _ _).1 k1)) (k2.put c2 k3)⟩
        · rw [if_neg (by rw [hw]; simp)]
          exact ⟨next w (fun _ => Ext.refl w), any_sound hT hl hsel hQ hP is _ H M _ h _ w ho2 (hcl.set hri) hH1' hH2 (next w fun _ => Ext.refl w) hG (R'.put c2 rfl)⟩
end
end Go.Proofs.Ytdeafbgnbgihgaa
