/- The abstract machine, sixteenth part: how a table of types is checked. Leans on no program. -/
import Derived.Test.YtdeafbgnbgihgaaVM15
import Derived.KernelRfl
set_option linter.unusedSimpArgs false
set_option linter.unusedVariables false
namespace Go.Proofs.Ytdeafbgnbgihgaa
open Go.RowKit

mutual
/-- the cells of a zero value -/
def zcV : V → List Value
  | .d (.int k n) => [.int k n]
  | .d (.bool b) => [.bool b]
  | .d (.str s) => [.string s]
  | .nils => [.slice none 0 0]
  | .nilp => [.pointer none]
  | .st fs => zcVs fs
  | _ => []
def zcVs : List V → List Value
  | [] => []
  | f :: fs => zcV f ++ zcVs fs
end
mutual
def zokV : V → Bool
  | .d (.int k n) => decide (k.min ≤ n) && decide (n ≤ k.max)
  | .d (.bool _) => true
  | .d (.str s) => Nat.beq s.size 0
  | .nils => true
  | .nilp => true
  | .st fs => zokVs fs
  | _ => false
def zokVs : List V → Bool
  | [] => true
  | f :: fs => zokV f && zokVs fs
end
def zVal (v : V) : Value := if v.isAgg then .agg (zcV v).toArray else (zcV v).headD Go.undef
mutual
theorem zc_rep {w : World} {M : MM} {h : List Blk} : ∀ v : V, zokV v = true → repC w M h v (zcV v)
  | .d (.int k n), H => by
    simp only [zokV, Bool.and_eq_true, decide_eq_true_eq] at H
    exact ⟨rfl, H⟩
  | .d (.bool b), _ => rfl
  | .d (.str s), H => by
    simp only [zokV, nbeq] at H
    exact ⟨rfl, by omega⟩
  | .nils, _ => rfl
  | .nilp, _ => rfl
  | .st fs, H => zcs_rep fs H
  | .d (.st _), H => by cases H
  | .d (.lst _), H => by cases H
  | .d (.hole _ _ _), H => by cases H
  | .d (.fnv _), H => by cases H
  | .top, H => by cases H
  | .undef, H => by cases H
  | .own _ _ _, H => by cases H
  | .pB _ _ _, H => by cases H
  | .pL _ _ _ _, H => by cases H
  | .pX _, H => by cases H
  | .fn _ _, H => by cases H
  | .tup _, H => by cases H
theorem zcs_rep {w : World} {M : MM} {h : List Blk} : ∀ vs : List V, zokVs vs = true → repCs w M h vs (zcVs vs)
  | [], _ => rfl
  | v :: vs, H => by
    simp only [zokVs, Bool.and_eq_true] at H
    exact ⟨_, _, rfl, zc_rep v H.1, zcs_rep vs H.2⟩
end
theorem zVal_rep {w : World} {M : MM} {h : List Blk} (v : V) (H : zokV v = true) : rep1 w M h v (zVal v) := by
  have hr := zc_rep (w := w) (M := M) (h := h) v H
  unfold rep1 zVal
  split
  · exact ⟨_, rfl, hr⟩
  · have hl := repC_len v _ hr
    have : (zcV v).length = 1 := by
      rw [hl]
      cases v with
      | d x => cases x <;> first | rfl | cases H
      | st _ => rename_i h; exact absurd rfl h
      | _ => first | rfl | cases H
    match hz : zcV v, this with
    | [c], _ => rw [hz] at hr; exact hr
def tkOf : TypeDesc → TK
  | .int k => .int k
  | .bool => .bool
  | .string => .str
  | .pointer e => .ptr e
  | .slice e => .sl e
  | .struct fs => .strct (fs.toList.map (fun f => (f.offset, f.type)))
  | .array n e => .ar n e
  | .func _ _ _ => .fn
  | _ => .other
theorem tk_ok {d : TypeDesc} {k : TK} (h : tkOf d = k) (hk : k ≠ .other) : TK.ok d k := by
  subst h
  cases d <;> first
    | exact absurd rfl hk
    | trivial
    | rfl
    | exact ⟨rfl, rfl⟩
def tiB (i : TI) : Bool := zokV i.zero && Nat.beq i.zero.size i.size && (i.agg || Nat.beq i.size 1) && (match i.kind with | .other => false | _ => true)
def eqChk (P : Program) (t : Nat) (i : TI) : Bool := bif i.eq then !P.stoodInHeld t && !P.eqGuardType P.depth t && ((P.fieldsOf t).toList.all fun f => f.name != "_") else true
theorem TIok.of {P : Program} {t : Nat} {i : TI} (h1 : ((P.info? t).map fun f => (f.size, f.bytes, f.zero)) = some (i.size, i.bytes, some (zVal i.zero))) (h2 : (P.underlying t).map tkOf = some i.kind) (h3 : tiB i = true) (h4 : eqChk P t i = true) : TIok P t i := by
  obtain ⟨f, hf, hf'⟩ := Option.map_eq_some_iff.1 h1
  obtain ⟨d, hd, hd'⟩ := Option.map_eq_some_iff.1 h2
  simp only [Prod.mk.injEq] at hf'
  obtain ⟨f1, f2, f3⟩ := hf'
  simp only [tiB, Bool.and_eq_true, nbeq, Bool.or_eq_true] at h3
  obtain ⟨⟨⟨z1, z2⟩, z3⟩, z4⟩ := h3
  refine ⟨⟨f, d, zVal i.zero, hf, f1, f2, f3, hd, tk_ok hd' ?_, fun w M h => zVal_rep _ z1, ?_, fun ha => ?_⟩, fun he => ?_⟩
  · intro e; rw [e] at z4; cases z4
  · have hr := rep1_cells (zVal_rep (w := default) (M := []) (h := []) i.zero z1)
    have := repC_len _ _ hr
    rw [Array.length_toList] at this
    rw [this, z2]
  · rcases z3 with z3 | z3
    · rw [ha] at z3; cases z3
    · exact z3
  · unfold eqChk at h4
    rw [he] at h4
    simp only [cond_true, Bool.and_eq_true, Bool.not_eq_true'] at h4
    exact ⟨h4.1.1, h4.1.2, h4.2⟩
def isStruct : Option TypeDesc → Bool
  | some (.struct _) => true
  | _ => false
theorem TIok.ofB {P : Program} {t e : Nat} {i : TI} (h1 : ((P.info? t).map fun f => (f.size, f.bytes, f.zero)) = some (i.size, i.bytes, some (zVal i.zero))) (h2 : isStruct (P.underlying t) = true) (hk : i.kind = .bld e) (h3 : (zokV i.zero && Nat.beq i.zero.size i.size) = true) (h4 : i.eq = false) : TIok P t i := by
  obtain ⟨f, hf, hf'⟩ := Option.map_eq_some_iff.1 h1
  simp only [Prod.mk.injEq] at hf'
  obtain ⟨f1, f2, f3⟩ := hf'
  simp only [Bool.and_eq_true, nbeq] at h3
  obtain ⟨z1, z2⟩ := h3
  cases hd : P.underlying t with
  | none => rw [hd] at h2; cases h2
  | some d =>
    rw [hd] at h2
    cases d <;> first
      | (cases h2; done)
      | skip
    refine ⟨⟨f, _, zVal i.zero, hf, f1, f2, f3, hd, by rw [hk]; exact trivial, fun w M h => zVal_rep _ z1, ?_, fun ha => ?_⟩, fun he => ?_⟩
    · have hr := rep1_cells (zVal_rep (w := default) (M := []) (h := []) i.zero z1)
      have := repC_len _ _ hr
      rw [Array.length_toList] at this
      rw [this, z2]
    · exfalso; unfold TI.agg at ha; rw [hk] at ha; cases ha
    · rw [h4] at he; cases he
inductive TTree where
  | leaf
  | node (l : TTree) (k : Nat) (v : TI) (r : TTree)
def TTree.find : TTree → Nat → Option TI
  | .leaf, _ => none
  | .node l k v r, t => bif Nat.beq t k then some v else bif Nat.ble t k then l.find t else r.find t
def TTree.all (P : Program) : TTree → Prop
  | .leaf => True
  | .node l k v r => l.all P ∧ TIok P k v ∧ r.all P
theorem TTree.ok {P : Program} : ∀ {tr : TTree}, tr.all P → TOk P tr.find
  | .leaf, _, t, i, h => by cases h
  | .node l k v r, H, t, i, h => by
    simp only [TTree.find] at h
    cases hb : Nat.beq t k with
    | true =>
      rw [hb] at h
      cases h
      have := Nat.eq_of_beq_eq_true hb
      subst this
      exact H.2.1
    | false =>
      rw [hb] at h
      simp only [cond_false] at h
      cases hc : Nat.ble t k with
      | true => rw [hc] at h; exact TTree.ok H.1 t i h
      | false => rw [hc] at h; exact TTree.ok H.2.2 t i h
end Go.Proofs.Ytdeafbgnbgihgaa
