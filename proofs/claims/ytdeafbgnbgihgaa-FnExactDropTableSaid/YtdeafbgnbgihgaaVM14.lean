/- The abstract machine, fourteenth part: code, loops, what a function returns. Leans on no program. -/
import Derived.Test.YtdeafbgnbgihgaaVMTree
set_option linter.unusedSimpArgs false
set_option linter.unusedVariables false
namespace Go.Proofs.Ytdeafbgnbgihgaa
open Go.RowKit

inductive VX where
  | normal
  | exit (id : Nat)
  | ret
abbrev Post := VX → Env → List Blk → Prop
def seqQ (n : Env → List Blk → Prop) (Q : Post) : Post
  | .normal => n
  | .exit id => Q (.exit id)
  | .ret => Q .ret
def blkQ (id : Nat) (Q : Post) : Post
  | .normal => Q .normal
  | .exit i => bif Nat.beq i id then Q .normal else Q (.exit i)
  | .ret => Q .ret
/-- knowing less, or the same in other words -/
def Weak (e : Env) (h : List Blk) (e' : Env) (h' : List Blk) : Prop :=
  ∀ (B : World) (X : List Nat) (N : Nat) (M : MM) (a : Act) (w : World), Rep B X N M e h a w → ∃ M', Rep B X N M' e' h' a w
structure NextW {α : Type} (mkE : α → Env) (mkH : α → List Blk) (I : α → Prop) (μ : α → Nat) (x : α) (e : Env) (h : List Blk) : Prop where
  ex : ∀ (B : World) (X : List Nat) (N : Nat) (M : MM) (a : Act) (w : World), Rep B X N M e h a w → ∃ x' M', Rep B X N M' (mkE x') (mkH x') a w ∧ I x' ∧ μ x' < μ x
def loopQ {α : Type} (mkE : α → Env) (mkH : α → List Blk) (I : α → Prop) (μ : α → Nat) (Q : Post) (x : α) : Post
  | .normal => NextW mkE mkH I μ x
  | .exit id => Q (.exit id)
  | .ret => Q .ret
structure LoopW (F : Post → Env → List Blk → Prop) (Q : Post) (e : Env) (h : List Blk) : Prop where
  ex : ∃ (α : Type) (mkE : α → Env) (mkH : α → List Blk) (I : α → Prop) (μ : α → Nat), (∀ (B : World) (X : List Nat) (N : Nat) (M : MM) (a : Act) (w : World), Rep B X N M e h a w → ∃ x0 M', Rep B X N M' (mkE x0) (mkH x0) a w ∧ I x0) ∧ ∀ x, I x → F (loopQ mkE mkH I μ Q x) (mkE x) (mkH x)
structure RegD (P : Program) (tt : TT) (l : List Oper) (K : Env → List Blk → Prop) (e : Env) (h : List Blk) : Prop where
  ex : (∃ is, ordOK l is = true ∧ seqV P tt true l is K e h) ∨ (∃ t, treeOK l t = true ∧ treeV P tt l t K e h) ∨ ∃ t e0 h0, treeOK l t = true ∧ treeV P tt l t (fun e h => Weak e h e0 h0) e h ∧ K e0 h0
def know (c : Operand) (b : Bool) (e : Env) : Env :=
  match c with
  | .tmp t => (t, .d (.bool b)) :: e
  | _ => e
def wpC (P : Program) (tt : TT) : Code → Post → Env → List Blk → Prop
  | .skip, Q => Q .normal
  | .region _ ⟨l⟩ draw, Q => fun e h => bif draw then RegD P tt l (Q .normal) e h else seqV P tt false l (List.range l.length) (Q .normal) e h
  | .seq x y, Q => wpC P tt x (seqQ (wpC P tt y Q) Q)
  | .cond c x y, Q => fun e h => match ev e c with
    | .d (.bool b) => BIf b (wpC P tt x Q (know c true e) h) (wpC P tt y Q (know c false e) h)
    | _ => False
  | .block id x, Q => wpC P tt x (blkQ id Q)
  | .loop x, Q => LoopW (wpC P tt x) Q
  | .exit id, Q => Q (.exit id)
  | .ret, Q => Q .ret
  | .rangeFunc _ _ _ _, _ => fun _ _ => False
  | .scope _, _ => fun _ _ => False
  | .label _, _ => fun _ _ => False
  | .goto _, _ => fun _ _ => False
  | .refuse _, _ => fun _ _ => False
def codeB (N : Nat) : Code → Bool
  | .skip => true
  | .region _ ⟨l⟩ _ => opsB N l
  | .seq x y => codeB N x && codeB N y
  | .cond c x y => cOK c && codeB N x && codeB N y
  | .block _ x => codeB N x
  | .loop x => codeB N x
  | .exit _ => true
  | .ret => true
  | .rangeFunc _ _ _ _ => true
  | .scope _ => true
  | .label _ => true
  | .goto _ => true
  | .refuse _ => true

def lift (B : World) (X : List Nat) (N : Nat) (Q : Post) : Exit → Act → World → Prop
  | .normal, a, w => ∃ e h M, Q .normal e h ∧ Rep B X N M e h a w
  | .exit id, a, w => ∃ e h M, Q (.exit id) e h ∧ Rep B X N M e h a w
  | .ret, a, w => ∃ e h M, Q .ret e h ∧ Rep B X N M e h a w
  | .goto _, _, _ => False
  | .panic _, _, _ => False
  | .outgrown, _, _ => False

theorem code_sound {P : Program} {tt : TT} (hT : TOk P tt) (hm : P.follows .mixedOrders = true) {B : World} {X : List Nat} {N : Nat} : ∀ (c : Code) (Q : Post) (M : MM) (e : Env) (h : List Blk) (a : Act) (w : World),
    codeB N c = true → wpC P tt c Q e h → Rep B X N M e h a w → c.wp P (lift B X N Q) a w
  | .skip, Q, M, e, h, a, w, _, H, R => wp_skip ⟨e, h, M, H, R⟩
  | .region id ⟨l⟩ draw, Q, M, e, h, a, w, hc, H, R => by
    cases draw with
    | false =>
      have H : seqV P tt false l (List.range l.length) (Q .normal) e h := H
      refine wp_region ?_
      rw [List.size_toArray]
      exact seq_sound hT hc (fun e h M a w hK R => ⟨e, h, M, hK, R⟩) _ M e h a w H R
    | true =>
      refine wp_region_any hm ?_
      refine wpAny_of_S (S := SH []) _ _ _ _ ?_
      have R' : Rep B X N M e h a w.drew := ⟨R.ext.drew, R.inv.ext ((Ext.refl w).drew), fun k => rep_mv (((Ext.refl w).drew).mv R.inv.hi) _ _ (V.inS_all _) (R.env k), R.sz, R.df, R.fr, R.fh⟩
      have hcl : Closed .any l.toArray (Array.replicate l.length false) := by
        intro j o _ hj
        rw [Array.getD_eq_getD_getElem?, Array.getElem?_replicate] at hj
        split at hj <;> simp at hj
      rw [List.size_toArray]
      rcases (H : RegD P tt l (Q .normal) e h).ex with ⟨is, ho, H⟩ | ⟨t, ho, H⟩ | ⟨t, e0, h0, ho, H, HK⟩
      · simp only [ordOK, Bool.and_eq_true, nbeq] at ho
        have := any_sound hT hc ho.1.1 (K := Q .normal) (Q := lift B X N Q) (fun e h M a w hK R => ⟨e, h, M, hK, R⟩) (fun c a w hp => hp) is (Array.replicate l.length false) [] M e h a _ ho.2 hcl (by simp) (by simp) (by intro p hp; cases hp) H R'
        rw [ho.1.2] at this
        exact this
      · simp only [treeOK, Bool.and_eq_true] at ho
        exact (tree_sound hT hc ho.1 (K := Q .normal) (Q := lift B X N Q) (fun e h M a w hK R => ⟨e, h, M, hK, R⟩) (fun c a w hp => hp) t l.length (Array.replicate l.length false) none [] M e h a _ ho.2 hcl (by simp) (by simp) (by intro p hp; cases hp) H R').1 rfl
      · simp only [treeOK, Bool.and_eq_true] at ho
        exact (tree_sound hT hc ho.1 (K := fun e h => Weak e h e0 h0) (Q := lift B X N Q) (fun e h M a w hK R => (hK _ _ _ _ _ _ R).elim fun M' R' => ⟨e0, h0, M', HK, R'⟩) (fun c a w hp => hp) t l.length (Array.replicate l.length false) none [] M e h a _ ho.2 hcl (by simp) (by simp) (by intro p hp; cases hp) H R').1 rfl
  | .seq x y, Q, M, e, h, a, w, hc, H, R => by
    simp only [codeB, Bool.and_eq_true] at hc
    refine wp_seq (wp_mono (code_sound hT hm x (seqQ (wpC P tt y Q) Q) M e h a w hc.1 H R) fun x' a' w' hx => ?_)
    cases x' with
    | normal =>
      obtain ⟨e', h', M', k1, k2⟩ := hx
      exact code_sound hT hm y Q M' e' h' a' w' hc.2 k1 k2
    | exit id => exact hx
    | ret => exact hx
    | goto l => exact hx
    | panic c => exact hx
    | outgrown => exact hx
  | .cond c x y, Q, M, e, h, a, w, hc, H, R => by
    simp only [codeB, Bool.and_eq_true] at hc
    have hev := ev_rep R.env c hc.1.1
    simp only [wpC] at H
    split at H
    · rename_i b hb
      rw [hb] at hev
      have hcv := rep_bool.1 hev
      have R' : ∀ q, b = q → Rep B X N M (know c q e) h a w := fun q hq => by
        cases c with
        | tmp t => exact R.know (rep_bool.2 (by rw [← hq]; exact hcv))
        | const _ => exact R
        | global _ => exact R
        | func _ => exact R
      refine BIf.elim H (fun hq H => ?_) (fun hq H => ?_)
      · exact wp_cond_true (by rw [hcv, hq]) (code_sound hT hm x Q M _ h a w hc.1.2 H (R' true hq))
      · exact wp_cond_false (by rw [hcv, hq]) (code_sound hT hm y Q M _ h a w hc.2 H (R' false hq))
    · exact H.elim
  | .block id x, Q, M, e, h, a, w, hc, H, R => by
    refine wp_block (wp_mono (code_sound hT hm x (blkQ id Q) M e h a w hc H R) fun x' a' w' hx => ?_)
    cases x' with
    | normal => exact hx
    | exit i =>
      obtain ⟨e', h', M', k1, k2⟩ := hx
      simp only [Exit.inBlock]
      simp only [blkQ] at k1
      by_cases hi : i = id
      · subst hi
        rw [Nat.beq_refl] at k1
        rw [if_pos rfl]
        exact ⟨e', h', M', k1, k2⟩
      · have : Nat.beq i id = false := by
          cases hb : Nat.beq i id with
          | false => rfl
          | true => exact absurd (Nat.eq_of_beq_eq_true hb) hi
        rw [this] at k1
        rw [if_neg hi]
        exact ⟨e', h', M', k1, k2⟩
    | ret => exact hx
    | goto l => exact hx
    | panic c => exact hx
    | outgrown => exact hx
  | .loop x, Q, M, e, h, a, w, hc, H, R => by
    obtain ⟨α, mkE, mkH, I, μ, hw0, hround⟩ := (H : LoopW (wpC P tt x) Q e h).ex
    obtain ⟨x0, M0, R0, hI0⟩ := hw0 B X N M a w R
    intro b k cs
    have key : ∀ (n : Nat) (M : MM) (y : α) (a : Act) (w : World), μ y = n → I y → Rep B X N M (mkE y) (mkH y) a w →
        ∃ e' a' w', lift B X N Q e' a' w' ∧ Arrives P (lone (b.at a (.code x :: .inLoop x :: k)) cs w) b k cs e' a' w' := by
      intro n
      induction n using Nat.strongRecOn with
      | _ n ih =>
        intro M y a w hn hI R
        obtain ⟨x', a1, w1, hq, harr⟩ := code_sound hT hm x (loopQ mkE mkH I μ Q y) M (mkE y) (mkH y) a w hc (hround y hI) R b (.inLoop x :: k) cs
        cases x' with
        | normal =>
          obtain ⟨e', h', M', ⟨hnx⟩, k2⟩ := hq
          obtain ⟨y3, M3, R3, hI3, hlt⟩ := hnx B X N M' a1 w1 k2
          obtain ⟨e₂, a₂, w₂, hq₂, harr₂⟩ := ih (μ y3) (hn ▸ hlt) M3 y3 a1 w1 rfl hI3 R3
          exact ⟨e₂, a₂, w₂, hq₂, .of_steps (Steps.trans harr (.one step_inLoop)) harr₂⟩
        | exit id =>
          have hq' : lift B X N Q (.exit id) a1 w1 := hq
          exact ⟨_, a1, w1, hq', .pass (x := .inLoop x) rfl (fun _ _ => .inl (by simp)) harr⟩
        | ret =>
          have hq' : lift B X N Q .ret a1 w1 := hq
          exact ⟨_, a1, w1, hq', .pass (x := .inLoop x) rfl (fun _ _ => .inl (by simp)) harr⟩
        | goto l => exact hq.elim
        | panic c => exact hq.elim
        | outgrown => exact hq.elim
    obtain ⟨e', a', w', hq, harr⟩ := key _ M0 x0 a w rfl hI0 R0
    exact ⟨e', a', w', hq, .of_steps (.one step_loop) harr⟩
  | .exit id, Q, M, e, h, a, w, _, H, R => wp_exit ⟨e, h, M, H, R⟩
  | .ret, Q, M, e, h, a, w, _, H, R => wp_ret ⟨e, h, M, H, R⟩
  | .rangeFunc _ _ _ _, Q, M, e, h, a, w, _, H, R => H.elim
  | .scope _, Q, M, e, h, a, w, _, H, R => H.elim
  | .label _, Q, M, e, h, a, w, _, H, R => H.elim
  | .goto _, Q, M, e, h, a, w, _, H, R => H.elim
  | .refuse _, Q, M, e, h, a, w, _, H, R => H.elim

/-! ### knowing less -/
def cov (e : Env) : Env → Prop
  | [] => True
  | (k, v) :: r => gt e k = v ∧ cov e r
def covH : List Blk → List Blk → Prop
  | _, [] => True
  | [], _ :: _ => False
  | b :: h, b' :: h' => (match b' with | .gone => True | b' => b = b') ∧ covH h h'
mutual
/-- refers only to what is left -/
def V.sc (h : List Blk) : V → Bool
  | .own b _ _ => (match h[b]? with | some (.arr _ _ _) => true | _ => false)
  | .pB b _ _ => (match h[b]? with | some (.box _) => true | some (.bld _ _ _) => true | some (.mp _ _) => true | _ => false)
  | .pL b _ _ _ => (match h[b]? with | some (.arr _ _ _) => true | _ => false)
  | .fn _ caps => V.scs h caps
  | .st fs => V.scs h fs
  | .tup vs => V.scs h vs
  | .top => true
  | .undef => true
  | .d _ => true
  | .nils => true
  | .nilp => true
  | .pX _ => true
def V.scs (h : List Blk) : List V → Bool
  | [] => true
  | v :: vs => v.sc h && V.scs h vs
end
def scE (h : List Blk) : Env → Bool
  | [] => true
  | (_, v) :: r => v.sc h && scE h r
def scH (h : List Blk) : List Blk → Bool
  | [] => true
  | .box v :: r => v.sc h && scH h r
  | .arr _ _ _ :: r => scH h r
  | .gone :: r => scH h r
  | .gho _ _ _ _ _ :: r => (match (h[2]? : Option Blk) with | some (Blk.arr _ _ _) => true | some (Blk.mp _ _) => true | _ => false) && scH h r
  | .pin c _ _ _ :: r => (match (h[c]? : Option Blk) with | some (Blk.arr _ _ _) => true | _ => false) && scH h r
  | .keep e _ :: r => scE h e && scH h r
  | .bld _ _ _ :: r => scH h r
  | .mp _ _ :: r => scH h r
def live0 (h : List Blk) (b : Nat) : Prop := ∃ k, h[b]? = some k ∧ k.live = true
mutual
theorem sc_inS {h : List Blk} : ∀ v : V, v.sc h = true → v.inS (live0 h)
  | .own b _ _, H => by
    simp only [V.sc] at H
    split at H
    · rename_i hk; exact ⟨_, hk, rfl⟩
    · cases H
  | .pB b _ _, H => by
    simp only [V.sc] at H
    split at H
    · rename_i hk; exact ⟨_, hk, rfl⟩
    · rename_i hk; exact ⟨_, hk, rfl⟩
    · rename_i hk; exact ⟨_, hk, rfl⟩
    · cases H
  | .pL b _ _ _, H => by
    simp only [V.sc] at H
    split at H
    · rename_i hk; exact ⟨_, hk, rfl⟩
    · cases H
  | .fn _ caps, H => scs_inS caps H
  | .st fs, H => scs_inS fs H
  | .tup vs, H => scs_inS vs H
  | .top, _ => trivial
  | .undef, _ => trivial
  | .d _, _ => trivial
  | .nils, _ => trivial
  | .nilp, _ => trivial
  | .pX _, _ => trivial
theorem scs_inS {h : List Blk} : ∀ vs : List V, V.scs h vs = true → V.inSs (live0 h) vs
  | [], _ => trivial
  | v :: vs, H => by
    simp only [V.scs, Bool.and_eq_true] at H
    exact ⟨sc_inS v H.1, scs_inS vs H.2⟩
end
theorem covH_get : ∀ (h h' : List Blk), covH h h' → ∀ (b : Nat) (k : Blk), h'[b]? = some k → ∃ k0, h[b]? = some k0 ∧ (k.live = true → k0 = k)
  | h, [], _, b, k, hk => by simp at hk
  | [], _ :: _, H, b, k, hk => H.elim
  | b0 :: h, b1 :: h', H, 0, k, hk => by
    simp at hk
    subst hk
    refine ⟨b0, rfl, fun hl => ?_⟩
    have := H.1
    cases b1 with
    | gone => cases hl
    | arr _ _ _ => exact this
    | box _ => exact this
    | gho _ _ _ _ _ => exact this
    | pin _ _ _ _ => exact this
    | keep _ _ => exact this
    | bld _ _ _ => exact this
    | mp _ _ => exact this
  | b0 :: h, b1 :: h', H, b + 1, k, hk => by
    obtain ⟨k0, h1, h2⟩ := covH_get h h' H.2 b k (by simpa using hk)
    exact ⟨k0, by simpa using h1, h2⟩
theorem scH_get {h0 : List Blk} : ∀ (h : List Blk), scH h0 h = true → ∀ (b : Nat) (v : V), h[b]? = some (.box v) → v.sc h0 = true
  | [], _, b, v, hk => by simp at hk
  | k :: h, H, 0, v, hk => by
    simp at hk
    subst hk
    simp only [scH, Bool.and_eq_true] at H
    exact H.1
  | k :: h, H, b + 1, v, hk => by
    refine scH_get h ?_ b v (by simpa using hk)
    cases k <;> first | exact H | (simp only [scH, Bool.and_eq_true] at H; exact H.2)
theorem scH_gho {h0 : List Blk} : ∀ (h : List Blk), scH h0 h = true → ∀ (b : Nat) (c : Nat → Option Obj) (s g sz : Nat) (t : TypeId), h[b]? = some (.gho c s g sz t) → live0 h0 2
  | [], _, b, c, s, g, sz, t, hk => by simp at hk
  | k :: h, H, 0, c, s, g, sz, t, hk => by
    simp at hk
    subst hk
    simp only [scH, Bool.and_eq_true] at H
    have := H.1
    split at this
    · rename_i h2
      exact ⟨_, h2, rfl⟩
    · rename_i h2
      exact ⟨_, h2, rfl⟩
    · cases this
  | k :: h, H, b + 1, c, s, g, sz, t, hk => by
    refine scH_gho h ?_ b c s g sz t (by simpa using hk)
    cases k <;> first | exact H | (simp only [scH, Bool.and_eq_true] at H; exact H.2)
theorem scH_pin {h0 : List Blk} : ∀ (h : List Blk), scH h0 h = true → ∀ (b : Nat) (c g sz : Nat) (t : TypeId), h[b]? = some (.pin c g sz t) → live0 h0 c
  | [], _, b, c, g, sz, t, hk => by simp at hk
  | k :: h, H, 0, c, g, sz, t, hk => by
    simp at hk
    subst hk
    simp only [scH, Bool.and_eq_true] at H
    have := H.1
    split at this
    · rename_i h2
      exact ⟨_, h2, rfl⟩
    · cases this
  | k :: h, H, b + 1, c, g, sz, t, hk => by
    refine scH_pin h ?_ b c g sz t (by simpa using hk)
    cases k <;> first | exact H | (simp only [scH, Bool.and_eq_true] at H; exact H.2)
theorem scH_keep {h0 : List Blk} : ∀ (h : List Blk), scH h0 h = true → ∀ (b : Nat) (e : Env) (f : Nat → Value), h[b]? = some (.keep e f) → scE h0 e = true
  | [], _, b, e, f, hk => by simp at hk
  | k :: h, H, 0, e, f, hk => by
    simp at hk
    subst hk
    simp only [scH, Bool.and_eq_true] at H
    exact H.1
  | k :: h, H, b + 1, e, f, hk => by
    refine scH_keep h ?_ b e f (by simpa using hk)
    cases k <;> first | exact H | (simp only [scH, Bool.and_eq_true] at H; exact H.2)
theorem scE_inS {h0 : List Blk} : ∀ (e : Env), scE h0 e = true → inSE (live0 h0) e
  | [], _ => trivial
  | (_, v) :: e, H => by
    simp only [scE, Bool.and_eq_true] at H
    exact ⟨sc_inS v H.1, scE_inS e H.2⟩
theorem scE_get {h0 : List Blk} : ∀ (e : Env), scE h0 e = true → ∀ k, (gt e k).sc h0 = true
  | [], _, k => rfl
  | (j, v) :: e, H, k => by
    simp only [scE, Bool.and_eq_true] at H
    rw [gt_cons]
    split
    · exact H.1
    · exact scE_get e H.2 k
theorem cov_get {e : Env} : ∀ (e' : Env), cov e e' → ∀ k, gt e' k = .top ∨ gt e' k = gt e k
  | [], _, k => .inl rfl
  | (j, v) :: e', H, k => by
    rw [gt_cons]
    split
    · rename_i hj
      subst hj
      exact .inr H.1.symm
    · exact cov_get e' H.2 k
/-- the blocks that are left -/
def cutM : MM → List Blk → MM
  | _, [] => []
  | [], _ :: _ => []
  | m :: M, k :: h => m :: cutM M h
theorem cutM_get : ∀ (M : MM) (h : List Blk) (b : Nat), h.length ≤ M.length → (cutM M h)[b]? = if b < h.length then M[b]? else none
  | M, [], b, _ => by cases M <;> simp [cutM]
  | [], k :: h, b, hl => by simp at hl
  | m :: M, k :: h, 0, _ => by simp [cutM]
  | m :: M, k :: h, b + 1, hl => by
    simp only [cutM, List.getElem?_cons_succ, List.length_cons, Nat.add_lt_add_iff_right]
    exact cutM_get M h b (by simpa using hl)
theorem cutM_take : ∀ (M : MM) (h : List Blk), h.length ≤ M.length → cutM M h = M.take h.length
  | M, [], _ => by cases M <;> rfl
  | [], k :: h, hl => by simp at hl
  | m :: M, k :: h, hl => by simp [cutM, cutM_take M h (by simpa using hl)]
theorem Weak.cov {e : Env} {h : List Blk} {e' : Env} {h' : List Blk} (h1 : cov e e') (h2 : covH h h') (h3 : (scE h' e' && scH h' h' && (match h' with | .gone :: _ => true | _ => false)) = true) : Weak e h e' h' := by
  intro B X N M a w R
  simp only [Bool.and_eq_true] at h3
  obtain ⟨⟨s1, s2⟩, s3⟩ := h3
  have hlen : h'.length ≤ h.length := by
    rcases Nat.lt_or_ge h.length h'.length with hlt | hge
    · obtain ⟨k, hk⟩ := at_lt hlt
      obtain ⟨k0, hk0, _⟩ := covH_get h h' h2 h.length k hk
      simp at hk0
    · exact hge
  have hM : h'.length ≤ M.length := by rw [R.inv.len]; exact hlen
  have hO : ∀ b, b ∈ MM.O (cutM M h') → b ∈ M.O := fun b hb => by
    obtain ⟨i, m, hm, hg⟩ := mem_O_get hb
    rw [cutM_get M h' i hM] at hm
    split at hm
    · exact mem_O hm hg
    · cases hm
  have mv : Mv (live0 h') w M h w (cutM M h') h' := {
    ext := fun b hb _ => ⟨fun hc => hb (hO b hc), rfl⟩
    ids := fun b g F hS hb => by
      obtain ⟨k, hk, _⟩ := hS
      refine ⟨F, ?_⟩
      rw [cutM_get M h' b hM, if_pos (List.getElem?_eq_some_iff.1 hk).1]
      exact hb
    row := fun b g F arr t _ _ hg => ⟨arr, hg, rfl⟩
    nof := fun b g F hS _ => by
      obtain ⟨k, hk, hl⟩ := hS
      obtain ⟨k0, hk0, hkk⟩ := covH_get h h' h2 b k hk
      rw [hkk hl] at hk0
      simp [nOf, hk, hk0]
    sz := Nat.le_refl _ }
  refine ⟨cutM M h', ⟨R.ext, ⟨?_, fun b k m hk hm => ?_, ?_, fun b k m hk hm hl => ?_, fun g hg => R.inv.hi g (hO g hg)⟩, fun k => ?_, R.sz, R.df, ?_, ?_⟩⟩
  · rw [cutM_take M h' hM, List.length_take]; omega
  · rw [cutM_get M h' b hM, if_pos (List.getElem?_eq_some_iff.1 hk).1] at hm
    obtain ⟨k0, hk0, hkk⟩ := covH_get h h' h2 b k hk
    cases hl : k.live with
    | false => cases k <;> first | trivial | cases hl
    | true =>
      obtain rfl := hkk hl
      refine BRep_mv mv ?_ (fun _ _ => rfl) (R.inv.blk b k0 m hk0 hm)
      cases k0 with
      | box v => exact sc_inS v (scH_get h' s2 b v hk)
      | arr _ _ _ => trivial
      | gone => trivial
      | gho c s g sz t => exact scH_gho h' s2 b c s g sz t hk
      | pin c g sz t => exact scH_pin h' s2 b c g sz t hk
      | keep e f => exact scE_inS e (scH_keep h' s2 b e f hk)
      | bld _ _ _ => trivial
      | mp _ _ => trivial
  · rw [cutM_take M h' hM]
    have hsub : List.Sublist (MM.O (M.take h'.length)) M.O := by
      have := O_app (M.take h'.length) (M.drop h'.length)
      rw [List.take_append_drop] at this
      rw [this]
      exact List.sublist_append_left _ _
    exact hsub.nodup R.inv.nd
  · rw [cutM_get M h' b hM, if_pos (List.getElem?_eq_some_iff.1 hk).1] at hm
    obtain ⟨k0, hk0, hkk⟩ := covH_get h h' h2 b k hk
    exact R.inv.lo b k m (by rw [← hkk hl]; exact hk0) hm hl
  · rcases cov_get e' h1 k with h | h
    · rw [h]; trivial
    · have := R.env k
      rw [← h] at this
      exact rep_mv mv _ _ (sc_inS _ (scE_get e' s1 k)) this
  · rw [cutM_get M h' 0 hM, if_pos (by cases h' with | nil => cases s3 | cons _ _ => simp)]
    exact R.fr
  · cases h' with
    | nil => cases s3
    | cons k _ => cases k <;> first | rfl | cases s3
theorem Weak.trans {e e' e'' : Env} {h h' h'' : List Blk} (h1 : Weak e h e' h') (h2 : Weak e' h' e'' h'') : Weak e h e'' h'' := fun B X N M a w R => by
  obtain ⟨M', R'⟩ := h1 B X N M a w R
  exact h2 B X N M' a w R'
theorem Weak.refl (e : Env) (h : List Blk) : Weak e h e h := fun _ _ _ M _ _ R => ⟨M, R⟩
end Go.Proofs.Ytdeafbgnbgihgaa
