/- The abstract machine: regions drawn in any order, where two loud operations may come in either order. Leans on no program. -/
import Derived.Test.YtdeafbgnbgihgaaVM13
set_option linter.unusedSimpArgs false
set_option linter.unusedVariables false
namespace Go.Proofs.Ytdeafbgnbgihgaa
open Go.RowKit
/-- orders of a region: a quiet operation that commutes with all that is left, or each of those that are ready ('alt', ended by 'nil') -/
inductive OT where
  | done
  | q (i : Nat) (t : OT)
  | alt (i : Nat) (t r : OT)
  | nil
def treeV (P : Program) (tt : TT) (l : List Oper) : OT → (Env → List Blk → Prop) → Env → List Blk → Prop
  | .done, K => K
  | .q i t, K => stepV P tt true l i (treeV P tt l t K)
  | .alt i t r, K => fun e h => match r with
    | .nil => stepV P tt true l i (treeV P tt l t K) e h
    | r => stepV P tt true l i (treeV P tt l t K) e h ∧ treeV P tt l r K e h
  | .nil, _ => fun _ _ => True
theorem treeV_alt {P : Program} {tt : TT} {l : List Oper} {i : Nat} {t r : OT} {K : Env → List Blk → Prop} {e : Env} {h : List Blk} (H : treeV P tt l (.alt i t r) K e h) : stepV P tt true l i (treeV P tt l t K) e h ∧ treeV P tt l r K e h := by
  cases r with
  | nil => exact ⟨H, trivial⟩
  | done => exact H
  | q _ _ => exact H
  | alt _ _ _ => exact H
def qOK (l : List Oper) (i : Nat) (listed : Array Bool) : Bool :=
  match l[i]? with
  | some o => isQuiet o && (Region.free .any l.toArray listed i && (Region.ready .any l.toArray listed).contains i && (!isLoad o || (modsLeft l listed).all (fun k => (reach l i (List.range l.length) []).contains k)))
  | none => false
def okT (l : List Oper) : OT → Nat → Array Bool → Option (List Nat) → Bool
  | .done, n, listed, rem => rem.isNone && Nat.beq n 0 && (Region.ready .any l.toArray listed).isEmpty
  | .q i t, n, listed, rem => match n with
    | n + 1 => rem.isNone && qOK l i listed && okT l t n (listed.setIfInBounds i true) none
    | 0 => false
  | .alt i t r, n, listed, rem => match n with
    | n + 1 => match rem.getD (Region.ready .any l.toArray listed) with
      | j :: js => Nat.beq j i && Nat.blt i l.length && okT l t n (listed.setIfInBounds i true) none && okT l r (n + 1) listed (some js)
      | [] => false
    | 0 => false
  | .nil, _, _, rem => match rem with
    | some [] => true
    | _ => false
def treeOK (l : List Oper) (t : OT) : Bool := Region.noSelect l.toArray && okT l t l.length (Array.replicate l.length false) none
section
variable {P : Program} {tt : TT} {B : World} {X : List Nat} {N : Nat} {l : List Oper}
theorem quiet_step (hT : TOk P tt) (hl : opsB N l = true) (hsel : Region.noSelect l.toArray = true) {Q : Exit → Act → World → Prop} (hP : ∀ c a w, ¬ Q (.panic c) a w) {K' : Env → List Blk → Prop} {i n : Nat} {listed : Array Bool} {o : Oper} (hoi : l[i]? = some o) (hq : isQuiet o = true)
    (ho1 : (Region.free .any l.toArray listed i && (Region.ready .any l.toArray listed).contains i && (!isLoad o || (modsLeft l listed).all (fun k => (reach l i (List.range l.length) []).contains k))) = true)
    (C : ∀ (H : List (List Nat × World)) (M : MM) (e : Env) (h : List Blk) (a : Act) (w : World), (∀ p ∈ H, ∀ k, isModAt l k = true → (listed.setIfInBounds i true).getD k true = false → k ∈ p.1) → (∀ p ∈ H, ∀ k ∈ p.1, isModAt l k = true) → SH H (listed.setIfInBounds i true) w → K' e h → Rep B X N M e h a w → wpAnyS P .any l.toArray Q (SH H) n (listed.setIfInBounds i true) a w)
    (H : List (List Nat × World)) (M : MM) (e : Env) (h : List Blk) (a : Act) (w : World) (hcl : Closed .any l.toArray listed) (hH1 : ∀ p ∈ H, ∀ k, isModAt l k = true → listed.getD k true = false → k ∈ p.1) (hH2 : ∀ p ∈ H, ∀ k ∈ p.1, isModAt l k = true) (hS : SH H listed w)
    (HK : stepV P tt true l i K' e h) (R : Rep B X N M e h a w) : wpAnyS P .any l.toArray Q (SH H) (n + 1) listed a w := by
  simp only [stepV] at HK
  rw [hoi] at HK
  dsimp only at HK
  obtain ⟨c1, c2⟩ := opB_c (opsB_c hl hoi)
  have hoi' : l.toArray[i]? = some o := by simpa using hoi
  obtain ⟨e', R', hG⟩ := guard_sound (i := i) R HK
  simp only [Bool.and_eq_true] at ho1
  obtain ⟨⟨q1, q2⟩, q3⟩ := ho1
  have hri : i ∈ Region.ready .any l.toArray listed := by simpa using q2
  have hnm : isMod o = false := by
    obtain ⟨_, op, _, _, _, _⟩ := o
    unfold isQuiet at hq
    cases op <;> first
      | rfl
      | (cases hq; done)
      | skip
    rename_i c
    obtain ⟨callee, args, ats⟩ := c
    cases callee <;> first
      | rfl
      | (cases hq; done)
      | skip
    rename_i b
    cases b <;> first
      | rfl
      | cases hq
  have hnmi : isModAt l i = false := by simp [isModAt, hoi, hnm]
  -- the value it yields
  have hyv : ∃ v cv, rep w M h v cv ∧ YieldsIf P l.toArray (fun w' => isLoad o = false ∨ Ext w w') o cv a ∧ K' (pt o.dst v e') h := by
    rcases hG with ⟨hw, hG⟩ | ⟨hw, hG⟩
    · unfold runV at hG
      rw [hq] at hG
      simp only [cond_true] at hG
      obtain ⟨v, cv, k1, k2, k3⟩ := quiet_sound hT R'.inv R'.env c1 hG
      have k1 := V.force_iff.1 k1
      exact ⟨v, cv, k2, .inl ⟨hw, fun w' hw' => k3 w' hw'⟩, k1⟩
    · exact ⟨.undef, Go.undef, rfl, .inr ⟨hw, rfl⟩, hG⟩
  obtain ⟨v, cv, k2, hy, k1⟩ := hyv
  let H' : List (List Nat × World) := (modsLeft l listed, w) :: H
  have hS' : SH H' listed w := by
    intro p hp
    rcases List.mem_cons.1 hp with rfl | hp
    · exact .inr (Ext.refl w)
    · exact hS p hp
  have hmem : ∀ k, k ∈ modsLeft l listed ↔ k < l.length ∧ isModAt l k = true ∧ listed.getD k true = false := fun k => by
    simp only [modsLeft, List.mem_filter, List.mem_range, Bool.and_eq_true, Bool.not_eq_true']
  have hH2' : ∀ p ∈ H', ∀ k ∈ p.1, isModAt l k = true := by
    intro p hp k hk
    rcases List.mem_cons.1 hp with rfl | hp
    · exact ((hmem k).1 hk).2.1
    · exact hH2 p hp k hk
  have hset : ∀ (s : Array Bool) (k : Nat), isModAt l k = true → (s.setIfInBounds i true).getD k false = s.getD k false := fun s k hk => getD_set_ne false (fun e => by subst e; rw [hnmi] at hk; cases hk)
  have hSi : ∀ s w', SH H' (s.setIfInBounds i true) w' ↔ SH H' s w' := fun s w' => by
    constructor
    · intro hh p hp
      rcases hh p hp with ⟨k, hk, hs⟩ | hx
      · exact .inl ⟨k, hk, by rw [hset s k (hH2' p hp k hk)] at hs; exact hs⟩
      · exact .inr hx
    · intro hh p hp
      rcases hh p hp with ⟨k, hk, hs⟩ | hx
      · exact .inl ⟨k, hk, by rw [hset s k (hH2' p hp k hk)]; exact hs⟩
      · exact .inr hx
  have ih := C H' M (pt o.dst v e') h (a.put o.dst cv) w (by
      intro p hp k hk hun
      have hun' : listed.getD k true = false := by
        by_cases hik : i = k
        · subst hik; rw [hnmi] at hk; cases hk
        · rw [getD_set_ne true hik] at hun; exact hun
      rcases List.mem_cons.1 hp with rfl | hp
      · refine (hmem k).2 ⟨?_, hk, hun'⟩
        unfold isModAt at hk
        split at hk
        · rename_i ho; exact (List.getElem?_eq_some_iff.1 ho).1
        · cases hk
      · exact hH1 p hp k hk hun') hH2' ((hSi _ _).2 hS') k1 (R'.put c2 k2)
  refine wpAnyS_mono (S := SH H') (fun s w' hh p hp => hh p (List.mem_cons_of_mem _ hp)) _ _ _ _ ?_
  refine wpAnyS_first hoi' (Region.noSelect_spec hsel) (fun c a w hp => absurd hp (hP c _ w)) ?_ hSi n listed a w hcl (Region.free_spec hoi' q1) hri hy hS' ih
  intro s w' hs hun hh
  rcases hh (modsLeft l listed, w) (by simp [H']) with ⟨k, hk, hsk⟩ | hx
  · left
    cases hld : isLoad o with
    | false => rfl
    | true =>
      exfalso
      rw [hld] at q3
      simp only [Bool.not_true, Bool.false_or, List.all_eq_true] at q3
      have := reach_spec (l := l) (i := i) (List.range l.length) [] (by simp) k (by simpa using q3 k hk) s hs hsk
      rw [(getD_tf hun).1] at this
      cases this
  · exact .inr hx
theorem loud_step (hT : TOk P tt) (hl : opsB N l = true) {Q : Exit → Act → World → Prop} {K' : Env → List Blk → Prop} {i n : Nat} {listed : Array Bool} {o : Oper} (hoi : l[i]? = some o) (hq : isQuiet o = false) (hri : i ∈ Region.ready .any l.toArray listed)
    (C : ∀ (H : List (List Nat × World)) (M : MM) (e : Env) (h : List Blk) (a : Act) (w : World), (∀ p ∈ H, ∀ k, isModAt l k = true → (listed.setIfInBounds i true).getD k true = false → k ∈ p.1) → (∀ p ∈ H, ∀ k ∈ p.1, isModAt l k = true) → SH H (listed.setIfInBounds i true) w → K' e h → Rep B X N M e h a w → wpAnyS P .any l.toArray Q (SH H) n (listed.setIfInBounds i true) a w)
    (H : List (List Nat × World)) (M : MM) (e : Env) (h : List Blk) (a : Act) (w : World) (hH1 : ∀ p ∈ H, ∀ k, isModAt l k = true → listed.getD k true = false → k ∈ p.1) (hH2 : ∀ p ∈ H, ∀ k ∈ p.1, isModAt l k = true) (hS : SH H listed w)
    (HK : stepV P tt true l i K' e h) (R : Rep B X N M e h a w) : wpOp P l.toArray Q i (fun a' w' => SH H (listed.setIfInBounds i true) w' ∧ wpAnyS P .any l.toArray Q (SH H) n (listed.setIfInBounds i true) a' w') a w := by
  simp only [stepV] at HK
  rw [hoi] at HK
  dsimp only at HK
  obtain ⟨c1, c2⟩ := opB_c (opsB_c hl hoi)
  have hoi' : l.toArray[i]? = some o := by simpa using hoi
  obtain ⟨e', R', hG⟩ := guard_sound (i := i) R HK
  have hun := (mem_ready.1 hri).1
  have hset : (listed.setIfInBounds i true).getD i false = true := by
    have := (getD_tf hun).2
    simp [this]
  have next : ∀ w' (hx : isMod o = false → Ext w w'), SH H (listed.setIfInBounds i true) w' := fun w' hx p hp => by
    cases hm : isMod o with
    | true => exact .inl ⟨i, hH1 p hp i (by simp [isModAt, hoi, hm]) hun, hset⟩
    | false =>
      rcases hS p hp with ⟨k, hk, hs⟩ | hxx
      · exact .inl ⟨k, hk, getD_set_true hs⟩
      · exact .inr (hxx.trans (hx hm))
  have hH1' : ∀ p ∈ H, ∀ k, isModAt l k = true → (listed.setIfInBounds i true).getD k true = false → k ∈ p.1 := fun p hp k hk hu => by
    refine hH1 p hp k hk ?_
    by_cases hik : i = k
    · subst hik; exact hun
    · rw [getD_set_ne true hik] at hu; exact hu
  unfold wpOp
  rw [hoi']
  dsimp only
  rcases hG with ⟨hw, hG⟩ | ⟨hw, hG⟩
  · rw [if_pos hw]
    refine .inl ?_
    unfold runV at hG
    rw [hq] at hG
    simp only [cond_false] at hG
    exact loud_sound hT R' c1 hG Q _ fun v cv e' h' M' w' k1 k2 k3 k4 => ⟨next w' (fun q => k4 q rfl), C H M' _ h' _ w' hH1' hH2 (next w' (fun q => k4 q rfl)) (V.force_iff.1 ((hforce_iff _ _).1 k1)) (k2.put c2 k3)⟩
  · rw [if_neg (by rw [hw]; simp)]
    exact ⟨next w (fun _ => Ext.refl w), C H M _ h _ w hH1' hH2 (next w fun _ => Ext.refl w) hG (R'.put c2 rfl)⟩
theorem quiet_nm {o : Oper} (hq : isQuiet o = true) : isMod o = false := by
  obtain ⟨_, op, _, _, _, _⟩ := o
  unfold isQuiet at hq
  cases op <;> first
    | rfl
    | (cases hq; done)
    | skip
  rename_i c
  obtain ⟨callee, args, ats⟩ := c
  cases callee <;> first
    | rfl
    | (cases hq; done)
    | skip
  rename_i b
  cases b <;> first
    | rfl
    | cases hq
theorem any_step (hT : TOk P tt) (hl : opsB N l = true) {Q : Exit → Act → World → Prop} {K' : Env → List Blk → Prop} {i n : Nat} {listed : Array Bool} {o : Oper} (hoi : l[i]? = some o) (hri : i ∈ Region.ready .any l.toArray listed)
    (C : ∀ (H : List (List Nat × World)) (M : MM) (e : Env) (h : List Blk) (a : Act) (w : World), (∀ p ∈ H, ∀ k, isModAt l k = true → (listed.setIfInBounds i true).getD k true = false → k ∈ p.1) → (∀ p ∈ H, ∀ k ∈ p.1, isModAt l k = true) → SH H (listed.setIfInBounds i true) w → K' e h → Rep B X N M e h a w → wpAnyS P .any l.toArray Q (SH H) n (listed.setIfInBounds i true) a w)
    (H : List (List Nat × World)) (M : MM) (e : Env) (h : List Blk) (a : Act) (w : World) (hH1 : ∀ p ∈ H, ∀ k, isModAt l k = true → listed.getD k true = false → k ∈ p.1) (hH2 : ∀ p ∈ H, ∀ k ∈ p.1, isModAt l k = true) (hS : SH H listed w)
    (HK : stepV P tt true l i K' e h) (R : Rep B X N M e h a w) : wpOp P l.toArray Q i (fun a' w' => SH H (listed.setIfInBounds i true) w' ∧ wpAnyS P .any l.toArray Q (SH H) n (listed.setIfInBounds i true) a' w') a w := by
  cases hq : isQuiet o with
  | false => exact loud_step hT hl hoi hq hri C H M e h a w hH1 hH2 hS HK R
  | true =>
    simp only [stepV] at HK
    rw [hoi] at HK
    dsimp only at HK
    obtain ⟨c1, c2⟩ := opB_c (opsB_c hl hoi)
    have hoi' : l.toArray[i]? = some o := by simpa using hoi
    obtain ⟨e', R', hG⟩ := guard_sound (i := i) R HK
    have hun := (mem_ready.1 hri).1
    have next : SH H (listed.setIfInBounds i true) w := fun p hp => by
      rcases hS p hp with ⟨k, hk, hs⟩ | hxx
      · exact .inl ⟨k, hk, getD_set_true hs⟩
      · exact .inr hxx
    have hH1' : ∀ p ∈ H, ∀ k, isModAt l k = true → (listed.setIfInBounds i true).getD k true = false → k ∈ p.1 := fun p hp k hk hu => by
      refine hH1 p hp k hk ?_
      by_cases hik : i = k
      · subst hik; exact hun
      · rw [getD_set_ne true hik] at hu; exact hu
    unfold wpOp
    rw [hoi']
    dsimp only
    rcases hG with ⟨hw, hG⟩ | ⟨hw, hG⟩
    · rw [if_pos hw]
      refine .inl ?_
      unfold runV at hG
      rw [hq] at hG
      simp only [cond_true] at hG
      obtain ⟨v, cv, k1, k2, k3⟩ := quiet_sound hT R'.inv R'.env c1 hG
      have k1 := V.force_iff.1 k1
      unfold Oper.wp
      rw [k3 w (.inr (Ext.refl w))]
      exact ⟨next, C H M _ h _ w hH1' hH2 next k1 (R'.put c2 k2)⟩
    · rw [if_neg (by rw [hw]; simp)]
      exact ⟨next, C H M _ h _ w hH1' hH2 next hG (R'.put c2 rfl)⟩
theorem tree_sound (hT : TOk P tt) (hl : opsB N l = true) (hsel : Region.noSelect l.toArray = true) {K : Env → List Blk → Prop} {Q : Exit → Act → World → Prop} (hQ : ∀ e h M a w, K e h → Rep B X N M e h a w → Q .normal a w) (hP : ∀ c a w, ¬ Q (.panic c) a w) :
    ∀ (t : OT) (n : Nat) (listed : Array Bool) (rem : Option (List Nat)) (H : List (List Nat × World)) (M : MM) (e : Env) (h : List Blk) (a : Act) (w : World), okT l t n listed rem = true → Closed .any l.toArray listed →
      (∀ p ∈ H, ∀ k, isModAt l k = true → listed.getD k true = false → k ∈ p.1) → (∀ p ∈ H, ∀ k ∈ p.1, isModAt l k = true) → SH H listed w →
      treeV P tt l t K e h → Rep B X N M e h a w → (rem = none → wpAnyS P .any l.toArray Q (SH H) n listed a w) ∧
        ∀ js, rem = some js → (∀ j ∈ js, j ∈ Region.ready .any l.toArray listed) → ∀ j ∈ js, wpOp P l.toArray Q j (fun a' w' => SH H (listed.setIfInBounds j true) w' ∧ wpAnyS P .any l.toArray Q (SH H) (n - 1) (listed.setIfInBounds j true) a' w') a w
  | .done, n, listed, rem, H, M, e, h, a, w, ho, _, _, _, _, HK, R => by
    simp only [okT, Bool.and_eq_true, nbeq] at ho
    obtain ⟨⟨hr, rfl⟩, ho⟩ := ho
    refine ⟨fun _ => ⟨by simpa using ho, hQ e h M a w HK R⟩, fun js hjs => ?_⟩
    rw [hjs] at hr; cases hr
  | .nil, n, listed, rem, H, M, e, h, a, w, ho, _, _, _, _, HK, R => by
    refine ⟨fun hn => ?_, fun js hjs _ j hj => ?_⟩
    · subst hn; cases ho
    · subst hjs
      cases js with
      | nil => cases hj
      | cons x xs => cases ho
  | .q i t, n, listed, rem, H, M, e, h, a, w, ho, hcl, hH1, hH2, hS, HK, R => by
    cases n with
    | zero => cases ho
    | succ n =>
      simp only [okT, Bool.and_eq_true] at ho
      obtain ⟨⟨hr, ho1⟩, ho2⟩ := ho
      refine ⟨fun _ => ?_, fun js hjs => by rw [hjs] at hr; cases hr⟩
      unfold qOK at ho1
      split at ho1
      · rename_i o hoi
        rw [Bool.and_eq_true] at ho1
        have hri : i ∈ Region.ready .any l.toArray listed := by
          have := ho1.2
          simp only [Bool.and_eq_true] at this
          simpa using this.1.2
        exact quiet_step hT hl hsel hP hoi ho1.1 ho1.2 (fun H M e h a w q1 q2 q3 q4 q5 => (tree_sound hT hl hsel hQ hP t n _ none H M e h a w ho2 (hcl.set hri) q1 q2 q3 q4 q5).1 rfl) H M e h a w hcl hH1 hH2 hS HK R
      · cases ho1
  | .alt i t r, n, listed, rem, H, M, e, h, a, w, ho, hcl, hH1, hH2, hS, HK, R => by
    cases n with
    | zero => cases ho
    | succ n =>
      obtain ⟨HK1, HK2⟩ := treeV_alt HK
      have key : ∀ L, rem.getD (Region.ready .any l.toArray listed) = L → (∀ j ∈ L, j ∈ Region.ready .any l.toArray listed) → L ≠ [] ∧ ∀ j ∈ L, wpOp P l.toArray Q j (fun a' w' => SH H (listed.setIfInBounds j true) w' ∧ wpAnyS P .any l.toArray Q (SH H) n (listed.setIfInBounds j true) a' w') a w := by
        intro L hL hsub
        simp only [okT] at ho
        rw [hL] at ho
        cases L with
        | nil => cases ho
        | cons x xs =>
          simp only [Bool.and_eq_true, nbeq] at ho
          obtain ⟨⟨⟨rfl, hlt⟩, ho2⟩, ho3⟩ := ho
          have hri := hsub x (by simp)
          obtain ⟨o, hoi⟩ : ∃ o, l[x]? = some o := ⟨_, List.getElem?_eq_getElem (by have h9 := hlt; simp [Nat.blt] at h9; omega)⟩
          refine ⟨by simp, fun j hj => ?_⟩
          rcases List.mem_cons.1 hj with rfl | hj
          · exact any_step hT hl hoi hri (fun H M e h a w q1 q2 q3 q4 q5 => (tree_sound hT hl hsel hQ hP t n _ none H M e h a w ho2 (hcl.set hri) q1 q2 q3 q4 q5).1 rfl) H M e h a w hH1 hH2 hS HK1 R
          · exact (tree_sound hT hl hsel hQ hP r (n + 1) listed (some xs) H M e h a w ho3 hcl hH1 hH2 hS HK2 R).2 xs rfl (fun j hj => hsub j (by simp [hj])) j hj
      refine ⟨fun hn => ?_, fun js hjs hsub j hj => ?_⟩
      · subst hn
        obtain ⟨k1, k2⟩ := key _ rfl (fun j hj => hj)
        exact ⟨fun h0 => absurd h0 k1, k2⟩
      · subst hjs
        exact (key js rfl hsub).2 j hj
end
/-! ### the orders of a region -/
def depT : List Edge → Nat
  | [] => 0
  | e :: es => bif Region.binds .any e then Nat.lor (Nat.shiftLeft 1 e.on) (depT es) else depT es
def bitsT : List Nat → Nat
  | [] => 0
  | i :: is => Nat.lor (Nat.shiftLeft 1 i) (bitsT is)
/-- the operations that change memory and do not wait for number i -/
def lateT (l : List Oper) (i : Nat) : Nat := bitsT ((List.range l.length).filter fun k => isModAt l k && !(reach l i (List.range l.length) []).contains k)
structure PT where
  i : Nat
  q : Bool
  dep : Nat
  late : Nat
def prepT (l : List Oper) : List Oper → Nat → List PT
  | [], _ => []
  | o :: r, i => ⟨i, isQuiet o, depT o.after.toList, bif isLoad o then lateT l i else 0⟩ :: prepT l r (i + 1)
def hasT (m d : Nat) : Bool := Nat.beq (Nat.land m d) m
def pickT (done : Nat) : List PT → Option Nat
  | [] => none
  | p :: r => bif (Nat.beq (Nat.land (Nat.shiftRight done p.i) 1) 0) && p.q && hasT p.dep done && hasT p.late done then some p.i else pickT done r
def rdyT (done : Nat) : List PT → List Nat
  | [] => []
  | p :: r => bif (Nat.beq (Nat.land (Nat.shiftRight done p.i) 1) 0) && hasT p.dep done then p.i :: rdyT done r else rdyT done r
def altsT (f : Nat → OT) : List Nat → OT
  | [] => .nil
  | i :: r => .alt i (f i) (altsT f r)
def treeF (ps : List PT) : Nat → Nat → OT
  | 0, _ => .done
  | n + 1, done => match pickT done ps with
    | some i => .q i (treeF ps n (Nat.lor done (Nat.shiftLeft 1 i)))
    | none => altsT (fun i => treeF ps n (Nat.lor done (Nat.shiftLeft 1 i))) (rdyT done ps)
def treeOf (l : List Oper) : OT := treeF (prepT l l 0) l.length 0
end Go.Proofs.Ytdeafbgnbgihgaa
