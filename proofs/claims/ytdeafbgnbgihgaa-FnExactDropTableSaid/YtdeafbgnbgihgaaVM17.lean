/- The abstract machine, seventeenth part: the steps of a proof; an order for a region; a slice that is nil taken as one's own. Leans on no program. -/
import Derived.Test.YtdeafbgnbgihgaaVM16
set_option linter.unusedSimpArgs false
set_option linter.unusedVariables false
namespace Go.Proofs.Ytdeafbgnbgihgaa
open Go.RowKit

/-! ### stops -/
theorem ArW.i64 {raw : Int} {K : Int → Prop} (h : -9223372036854775808 ≤ raw ∧ raw ≤ 9223372036854775807) (H : K raw) : ArW .i64 raw K := ⟨raw, (IntWalk.i64_in _ h).symm, H⟩
theorem ArW.u8 {raw : Int} {K : Int → Prop} (h : 0 ≤ raw ∧ raw ≤ 255) (H : K raw) : ArW .u8 raw K := ⟨raw, (IntWalk.u8_in _ h).symm, H⟩
theorem ArW.u64 {raw : Int} {K : Int → Prop} (h : 0 ≤ raw ∧ raw ≤ 18446744073709551615) (H : K raw) : ArW .u64 raw K := ⟨raw, by simp only [IntKind.wrap, IntKind.bits, IntKind.signed, Bool.false_and, Bool.false_eq_true, if_false, Int.reducePow]; omega, H⟩
theorem ArW.u32 {raw : Int} {K : Int → Prop} (h : 0 ≤ raw ∧ raw ≤ 4294967295) (H : K raw) : ArW .u32 raw K := ⟨raw, by simp only [IntKind.wrap, IntKind.bits, IntKind.signed, Bool.false_and, Bool.false_eq_true, if_false, Int.reducePow]; omega, H⟩
theorem ShW.at {p q : Int} {K : Int → Prop} (h : q = p) (hq : 0 < q) (H : K q) : ShW p K := ⟨q, h, hq, H⟩
theorem EqW.at {a b : Nat} {K : Prop} (h : a = b) (H : K) : EqW a b K := ⟨h, H⟩
theorem StW.at {xs : List D} {K : ByteArray → Prop} {s : ByteArray} (h : xs = s.data.toList.map bD) (H : K s) : StW xs K := ⟨s, h, H⟩
theorem ArW.i64e {raw : Int} (z : Int) {K : Int → Prop} (e : raw = z) (h : -9223372036854775808 ≤ z ∧ z ≤ 9223372036854775807) (H : K z) : ArW .i64 raw K := by subst e; exact ArW.i64 h H
theorem ArW.u64e {raw : Int} (z : Int) {K : Int → Prop} (e : raw = z) (h : 0 ≤ z ∧ z ≤ 18446744073709551615) (H : K z) : ArW .u64 raw K := by subst e; exact ArW.u64 h H
theorem ArW.u8e {raw : Int} (z : Int) {K : Int → Prop} (e : raw = z) (h : 0 ≤ z ∧ z ≤ 255) (H : K z) : ArW .u8 raw K := by subst e; exact ArW.u8 h H
theorem ArW.any {k : IntKind} {raw : Int} {K : Int → Prop} (H : K (k.wrap raw)) : ArW k raw K := ⟨_, rfl, H⟩
theorem NzW.mk' {b : Int} {K : Prop} (h : b ≠ 0) (H : K) : NzW b K := ⟨h, H⟩
theorem IxW.at {i : Int} {xs : List D} {K : D → Prop} {y : D} (h0 : 0 ≤ i) (hy : xs[i.toNat]? = some y) (H : K y) : IxW i xs K := ⟨y, h0, hy, H⟩
theorem IxW.map {α : Type} {f : α → D} {k : Nat} {ys : List α} {K : D → Prop} {y : α} (hy : ys[k]? = some y) (H : K (f y)) : IxW (k : Int) (ys.map f) K := ⟨f y, by omega, by simp [hy], H⟩
theorem IoW.at {i : Int} {n : Nat} {K : Nat → Prop} (h0 : 0 ≤ i) (h : i < (n : Int)) (H : K i.toNat) : IoW i n K := ⟨h0, h, H⟩
theorem EoW.at {k : Nat} {xs : List D} {K : D → Prop} {y : D} (hy : xs[k]? = some y) (H : K y) : EoW k xs K := ⟨y, hy, H⟩
theorem ChW.at {i : Int} {s : ByteArray} {K : UInt8 → Prop} {c : UInt8} (h0 : 0 ≤ i) (hc : s[i.toNat]? = some c) (H : K c) : ChW i s K := ⟨c, h0, hc, H⟩
theorem BnW.at {i : Int} {K : Nat → Prop} (h : 0 ≤ i) (H : K i.toNat) : BnW i K := ⟨h, H⟩
theorem SlW.at {l r n : Nat} {K : Prop} (h1 : l ≤ r) (h2 : r ≤ n) (H : K) : SlW l r n K := ⟨h1, h2, H⟩
theorem SzW.at {n : Nat} {xs : List D} {K : Prop} (h : ∀ y ∈ xs, y.size = n) (H : K) : SzW n xs K := ⟨h, H⟩
theorem SzW.map {α : Type} {f : α → D} {n : Nat} {xs : List α} {K : Prop} (h : ∀ y, (f y).size = n) (H : K) : SzW n (xs.map f) K := ⟨by simp [h], H⟩
theorem CatW.at {a b : ByteArray} {K : Prop} (h : a.size + b.size ≤ maxLen) (H : K) : CatW a b K := ⟨h, H⟩
theorem TkW.at {len : Nat} {xs : List D} {K : Prop} (h : len = xs.length) (H : K) : TkW 0 len xs K := ⟨rfl, h, H⟩
theorem ZrW.at {n : Int} {bytes : Nat} {K : Nat → Prop} (h1 : 1 ≤ n) (h2 : n ≤ 4611686018427387904) (h3 : n * bytes ≤ 140737488355328) (H : K n.toNat) : ZrW n bytes K := ⟨h1, h2, h3, H⟩
theorem ZrW.atn {n : Int} {bytes : Nat} {K : Nat → Prop} (k : Nat) (e : n = (k : Int)) (h1 : 1 ≤ k) (h2 : k ≤ 4611686018427387904) (h3 : k * bytes ≤ 140737488355328) (H : K k) : ZrW n bytes K := by
  subst e
  exact ⟨by omega, by omega, by rw [← Int.natCast_mul]; omega, by rw [Int.toNat_natCast]; exact H⟩
theorem MkW.at {n c : Int} {bytes : Nat} {K : Nat → Prop} (h1 : 0 ≤ n) (h2 : n ≤ c) (h3 : bytes * c ≤ 2 ^ 48) (H : K n.toNat) : MkW n c bytes K := ⟨h1, h2, h3, H⟩
theorem ApW.at {n bytes : Nat} {K : Prop} (h1 : n ≤ maxLen) (h2 : n * bytes ≤ 140737488355328) (H : K) : ApW n bytes K := ⟨h1, h2, H⟩
theorem OffW.at {len n : Nat} {K : Prop} (h : len ≤ n) (H : K) : OffW 0 len n K := ⟨rfl, h, H⟩
theorem FlW.map {α : Type} {f : α → D} {n : Nat} {xs : List α} {K K' : Prop} (h : ∀ y, (f y).flat = true ∧ (f y).size = n) (H : K) : FlW (xs.map f) n K K' := ⟨.inl ⟨by simp [h], H⟩⟩
theorem FlW.mapX {α : Type} {f : α → D} {n : Nat} {xs : List α} {K K' : Prop} (h : ∀ y, (f y).size = n) (H : K') : FlW (xs.map f) n K K' := ⟨.inr ⟨by simp [h], H⟩⟩
theorem LtW.at {k n : Nat} {K : Prop} (h : k < n) (H : K) : LtW k n K := ⟨h, H⟩
theorem CallW.use {P : Program} {dr : Bool} {f : FuncId} {vs : List V} {e : Env} {h : List Blk} {K : V → Env → List Blk → Prop} {As : List V} {v : V} {bs : List Blk} (pc : PC P f As v bs) (hb : borVs h vs As)
    (hf : (v.fit (!V.exts vs) && fitBs (!V.exts vs) bs && Nat.ble 1 h.length) = true) (H : K (v.shift (h.length - 1)) e (h ++ shiftBs (h.length - 1) bs)) : CallW P dr f vs e h K := ⟨.inl (.inl ⟨⟨As, v, bs, pc, hb, hf, H⟩⟩)⟩
theorem RetOK.d {h : List Blk} {va : V} {y : D} (h1 : va.okc = true) (h2 : va.ext = true) (h3 : borD h va y) : RetOK h va (.d y) [] := ⟨[], trivial, by simp, h1, h2, h3⟩
theorem RetOK.t {h : List Blk} {fs gs : List V} (h1 : okTs fs = true) (h3 : rnVs h [] fs gs) : RetOK h (.tup fs) (.tup gs) [] := ⟨[], trivial, by simp, fs, rfl, h1, h3⟩
theorem LoopW.go {α : Type} (mkE : α → Env) (mkH : α → List Blk) (I : α → Prop) (μ : α → Nat) (x0 : α) {F : Post → Env → List Blk → Prop} {Q : Post} {e : Env} {h : List Blk} (hw : Weak e h (mkE x0) (mkH x0)) (hI : I x0)
    (hr : ∀ x, I x → F (loopQ mkE mkH I μ Q x) (mkE x) (mkH x)) : LoopW F Q e h := ⟨α, mkE, mkH, I, μ, fun B X N M a w R => (hw B X N M a w R).elim fun M' R' => ⟨x0, M', R', hI⟩, hr⟩
theorem NextW.go {α : Type} {mkE : α → Env} {mkH : α → List Blk} {I : α → Prop} {μ : α → Nat} {x : α} {e : Env} {h : List Blk} (x' : α) (hw : Weak e h (mkE x') (mkH x')) (hI : I x') (hm : μ x' < μ x) : NextW mkE mkH I μ x e h := ⟨fun B X N M a w R => (hw B X N M a w R).elim fun M' R' => ⟨x', M', R', hI, hm⟩⟩

/-! ### an order for a region that asks for one -/
def depM : List Edge → Nat
  | [] => 0
  | e :: es => bif Region.binds .any e then Nat.lor (Nat.shiftLeft 1 e.on) (depM es) else depM es
def prepO : List Oper → Nat → List (Nat × Bool × Nat)
  | [], _ => []
  | o :: l, i => (i, isQuiet o, depM o.after.toList) :: prepO l (i + 1)
def pickO (done : Nat) (q : Bool) : List (Nat × Bool × Nat) → Option Nat
  | [] => none
  | (i, qi, m) :: r => bif (Nat.beq (Nat.land (Nat.shiftRight done i) 1) 0) && (qi || !q) && Nat.beq (Nat.land m done) m then some i else pickO done q r
def ordF (ps : List (Nat × Bool × Nat)) : Nat → Nat → List Nat
  | 0, _ => []
  | n + 1, done => match pickO done true ps with
    | some i => i :: ordF ps n (Nat.lor done (Nat.shiftLeft 1 i))
    | none => match pickO done false ps with
      | some i => i :: ordF ps n (Nat.lor done (Nat.shiftLeft 1 i))
      | none => []
def ordOf (l : List Oper) : List Nat := ordF (prepO l 0) l.length 0
theorem RegD.auto {P : Program} {tt : TT} {l : List Oper} {K : Env → List Blk → Prop} {e : Env} {h : List Blk} (h1 : ordOK l (ordOf l) = true) (H : seqV P tt true l (ordOf l) K e h) : RegD P tt l K e h := ⟨.inl ⟨_, h1, H⟩⟩
/-- two loud operations in either order -/
theorem RegD.tree {P : Program} {tt : TT} {l : List Oper} {K : Env → List Blk → Prop} {e : Env} {h : List Blk} (h1 : treeOK l (treeOf l) = true) (H : treeV P tt l (treeOf l) K e h) : RegD P tt l K e h := ⟨.inr (.inl ⟨_, h1, H⟩)⟩
/-- all orders end in one state -/
theorem RegD.cut {P : Program} {tt : TT} {l : List Oper} {K : Env → List Blk → Prop} {e : Env} {h : List Blk} (e0 : Env) (h0 : List Blk) (h1 : treeOK l (treeOf l) = true) (H : treeV P tt l (treeOf l) (fun e h => Weak e h e0 h0) e h) (HK : K e0 h0) : RegD P tt l K e h := ⟨.inr (.inr ⟨_, e0, h0, h1, H, HK⟩)⟩

/-! ### a nil slice becomes one of our own -/
theorem Weak.adopt {e : Env} {h : List Blk} {k : Nat} (hk : gt e k = .nils) (n : Nat) (dp : Bool) : Weak e h ((k, .own h.length 0 0) :: e) (h ++ [.arr n [] dp]) := by
  intro B X N M a w R
  have hO : MM.O [none] = [] := rfl
  have mv : Mv (fun _ => True) w M h w (M ++ [none]) (h ++ [.arr n [] dp]) := push_mv R.inv.len (Ext.refl w) R.inv.hi (by rw [hO]; simp)
  have R1 := R.step R.ext (R.inv.push R.base (Ext.refl w) (Mn := [none]) (hn := [.arr n [] dp]) rfl (by rw [hO]; simp) (by rw [hO]; simp) (by rw [hO]; simp) (by
    intro b k m hk hm
    cases b with
    | zero => simp at hk hm; subst hk; subst hm; exact rfl
    | succ b => simp at hk)) mv (fr_push R.fr _) (fr_push R.fh _)
  refine ⟨_, R1.know (rep_own.2 ?_)⟩
  have := R.env k
  rw [hk] at this
  rw [rep_nils.1 this]
  exact ⟨none, 0, rfl, Nat.le_refl _, Nat.zero_le _, fun _ => rfl, .inl rfl⟩
/-- a row of our own is read as an empty one: what stands behind is forgotten -/
theorem Weak.cut0 {e : Env} {h : List Blk} (b : Nat) {n : Nat} {xs : List D} {dp : Bool} (dp' : Bool) (hb : h[b]? = some (.arr n xs dp)) (hb0 : Nat.ble 1 b = true) : Weak e h e (h.set b (.arr n [] dp')) := by
  intro B X N M a w R
  have hbl : b < M.length := by rw [R.inv.len]; exact (List.getElem?_eq_some_iff.1 hb).1
  have hM : M[b]? = some M[b] := List.getElem?_eq_getElem hbl
  have hb1 : b ≠ 0 := by have := Nat.le_of_ble_eq_true hb0; omega
  have hnf : nOf (h.set b (.arr n [] dp')) b = nOf h b := by
    unfold nOf; rw [List.getElem?_set_self (List.getElem?_eq_some_iff.1 hb).1, hb]
  generalize M[b] = m0 at hM
  cases m0 with
  | none =>
    obtain ⟨M', R', -⟩ := R.reset (w' := w) (m' := none) (k' := .arr n [] dp') R.ext hM hb1 hb (.inl rfl) [] [] (by simp) (by simp) (by simp) (by simp) (by simp [mO]) (by simp [mO]) (by simp [mO]) (Nat.le_refl _) (fun _ _ _ => rfl) rfl (by intro _ g F q; cases q) (fun _ _ _ => rfl)
    simp only [dropE, dropK, goneL] at R'
    exact ⟨M', R'⟩
  | some gF =>
    obtain ⟨g, F⟩ := gF
    obtain ⟨arr, t, q1, q2, q3⟩ := R.inv.blk b _ _ hb hM
    have hgi : g ∈ M.O := mem_O hM (by simp [mO])
    obtain ⟨M', R', -⟩ := R.reset (w' := w) (m' := some (g, [])) (k' := .arr n [] dp') R.ext hM hb1 hb (.inl rfl) [] [] (by simp) (by simp) (by simp) (by simp) (by simp [mO]) (by simp [mO]) (by simpa [mO] using R.inv.hi g hgi) (Nat.le_refl _) (fun _ _ _ => rfl) rfl
      (by intro _ g' F' q; cases q; exact ⟨⟨[], rfl⟩, hnf, fun arr t h => ⟨arr, h, rfl⟩⟩)
      (fun M' h' _ => ⟨arr, t, q1, by simp, by cases dp' <;> simp [ownDe, extDe]⟩)
    simp only [dropE, dropK, goneL] at R'
    exact ⟨M', R'⟩
/-- something is known of a slot -/
theorem Weak.same {e : Env} {h : List Blk} {k : Nat} {v : V} (hk : gt e k = v) : Weak e h ((k, v) :: e) h := fun B X N M a w R => ⟨M, R.know (by rw [← hk]; exact R.env k)⟩
/-! the same goal again: tells the kind of a stop -/
theorem ArW.id {k : IntKind} {raw : Int} {K : Int → Prop} (H : ArW k raw K) : ArW k raw K := H
theorem NzW.id {b : Int} {K : Prop} (H : NzW b K) : NzW b K := H
theorem IxW.id {i : Int} {xs : List D} {K : D → Prop} (H : IxW i xs K) : IxW i xs K := H
theorem IoW.id {i : Int} {len : Nat} {K : Nat → Prop} (H : IoW i len K) : IoW i len K := H
theorem EoW.id {k : Nat} {xs : List D} {K : D → Prop} (H : EoW k xs K) : EoW k xs K := H
theorem ChW.id {i : Int} {s : ByteArray} {K : UInt8 → Prop} (H : ChW i s K) : ChW i s K := H
theorem NlW.id {n : Nat} {A B : Prop} (H : NlW n A B) : NlW n A B := H
theorem NlW.mk' {n : Nat} {A B A' B' : Prop} (h1 : n = 0 → A') (h2 : B') (w1 : A' → A := by (intro H; (conv => whnf); exact H)) (w2 : B' → B := by (intro H; (conv => whnf); exact H)) : NlW n A B := ⟨fun h => w1 (h1 h), w2 h2⟩
theorem BnW.id {i : Int} {K : Nat → Prop} (H : BnW i K) : BnW i K := H
theorem SlW.id {l r n : Nat} {K : Prop} (H : SlW l r n K) : SlW l r n K := H
theorem LtW.id {k n : Nat} {K : Prop} (H : LtW k n K) : LtW k n K := H
theorem TkW.id {off len : Nat} {xs : List D} {K : Prop} (H : TkW off len xs K) : TkW off len xs K := H
theorem OffW.id {off len n : Nat} {K : Prop} (H : OffW off len n K) : OffW off len n K := H
theorem RegD.id {P : Program} {tt : TT} {l : List Oper} {K : Env → List Blk → Prop} {e : Env} {h : List Blk} (H : RegD P tt l K e h) : RegD P tt l K e h := H
theorem ShW.id {p : Int} {K : Int → Prop} (H : ShW p K) : ShW p K := H
theorem EqW.id {a b : Nat} {K : Prop} (H : EqW a b K) : EqW a b K := H
theorem StW.id {xs : List D} {K : ByteArray → Prop} (H : StW xs K) : StW xs K := H
theorem SzW.id {n : Nat} {xs : List D} {K : Prop} (H : SzW n xs K) : SzW n xs K := H
theorem CatW.id {a b : ByteArray} {K : Prop} (H : CatW a b K) : CatW a b K := H
theorem ZrW.id {n : Int} {bytes : Nat} {K : Nat → Prop} (H : ZrW n bytes K) : ZrW n bytes K := H
theorem MkW.id {n c : Int} {bytes : Nat} {K : Nat → Prop} (H : MkW n c bytes K) : MkW n c bytes K := H
theorem ApW.id {n bytes : Nat} {K : Prop} (H : ApW n bytes K) : ApW n bytes K := H
theorem FlW.id {xs : List D} {n : Nat} {K K' : Prop} (H : FlW xs n K K') : FlW xs n K K' := H
theorem RetOK.id {h : List Blk} {va v : V} {bs : List Blk} (H : RetOK h va v bs) : RetOK h va v bs := H
theorem CallW.id {P : Program} {dr : Bool} {f : FuncId} {vs : List V} {e : Env} {h : List Blk} {K : V → Env → List Blk → Prop} (H : CallW P dr f vs e h K) : CallW P dr f vs e h K := H
end Go.Proofs.Ytdeafbgnbgihgaa
