/- merged: several parts in one text. Leans on no more than they do. -/
import Derived.Test.YtdeafbgnbgihgaaDoorVMOut
import Derived.Test.YtdeafbgnbgihgaaDoorTT
import Derived.Test.YtdeafbgnbgihgaaDoorTypes
import Derived.Test.YtdeafbgnbgihgaaDoorRows
import Derived.Test.YtdeafbgnbgihgaaDoorVMTac
import Derived.Shelf.Strings.BuilderK
import Derived.Sort.Grow
import Derived.Deep.RegionLaw
import Derived.Deep.LoopGhost
import Derived.Lib.SliceRun
import Derived.Shelf.RegionOpenPlain
import Derived.WalkKit
import Derived.Lib.Walk
set_option linter.unusedSimpArgs false
set_option linter.unusedVariables false
namespace Go.Proofs.YtdeafbgnbgihgaaDoor
open Go.RowKit Go.ChangeShapes Go.WideShapes
def RdD (P : Program) (T : TypeId) (n : Nat) (p : D → Prop) : Prop :=
  P.cellsOf T = n ∧ ∀ (H : Type) (enc : TypeId × Value → H) (w : World) (fuel : Nat) (cs : List Value) (x : DataW H × List MemPlace),
    DataW.trod enc P w 0 (fun _ => true) true fuel T cs = some x → ∃ d, p d ∧ d.size = n ∧ repD [] w d cs
theorem inR_wf {k : IntKind} {n : Int} (h : (Lit.int k n).wf = true) : inR k n := by
  have h' : (decide (k.min ≤ n) && decide (n ≤ k.max)) = true := h
  simp only [Bool.and_eq_true, decide_eq_true_eq] at h'
  exact h'
section
variable {P : Program} {T : TypeId}
theorem rd2_imp {n : Nat} {p q : D → Prop} (h : RdD P T n p) (hq : ∀ d, p d → q d) : RdD P T n q :=
  ⟨h.1, fun H enc w fuel cs x ht => by
    obtain ⟨d, h1, h2⟩ := h.2 H enc w fuel cs x ht
    exact ⟨d, hq d h1, h2⟩⟩
theorem rd2_slice {E : TypeId} {n : Nat} {p : D → Prop} (hT : P.underlying T = some (.slice E)) (hc : P.cellsOf T = 1) (hn : 0 < n) (hE : RdD P E n p) : RdD P T 1 fun d => ∃ xs : List D, d = .lst xs ∧ ∀ x ∈ xs, p x :=
  ⟨hc, fun H enc w fuel cs x h => by
    rcases Deep.open_slice hT h with ⟨rfl, _⟩ | ⟨a, len, cap, m, k, Dd, Pl, rfl, _, hl, hm, hmm, _, hel⟩
    · exact ⟨.lst [], ⟨[], rfl, by simp⟩, rfl, none, 0, 0, rfl, Nat.le_refl _, Nat.zero_le _, fun _ => rfl, trivial⟩
    · simp only [if_true] at hmm
      obtain rfl := hmm.symm
      obtain ⟨xs, hxl, hxs⟩ := exists_list (n := len) (p := fun i (x : D) => p x ∧ ∃ b o cs, a = ⟨b, o, none⟩ ∧ b < w.heap.size ∧ CellsAt w b (o + i * n) cs ∧ x.size = n ∧ repD [] w x cs) (fun i hi => by
        obtain ⟨cs', h1, h2⟩ := hel i (by omega)
        obtain ⟨y, hy1, hy2, hy3⟩ := hE.2 _ _ _ _ _ _ h2
        obtain ⟨_, hcl, hat⟩ := World.cells?_some h1
        rw [hE.1] at hcl hat
        have h0 := hat 0 hn
        rw [List.getElem?_eq_getElem (by omega)] at h0
        have hsp := cell_spot h0
        have haa : a = ⟨a.block, a.off, none⟩ := by
          obtain ⟨cs0, h10, h20⟩ := hel 0 (by omega)
          obtain ⟨_, hcl0, hat0⟩ := World.cells?_some h10
          rw [hE.1] at hcl0 hat0
          have h00 := hat0 0 hn
          rw [List.getElem?_eq_getElem (by omega)] at h00
          simpa [Addr.add] using cell_spot h00
        have hcells : CellsAt w a.block (a.off + i * n) cs' := fun j v hj => by
          have hjl : j < cs'.length := (List.getElem?_eq_some_iff.1 hj).1
          have := hat j (by omega)
          rw [hj] at this
          rw [addr_add, haa, addr_add_plain] at this
          simpa [Nat.add_assoc] using this
        refine ⟨y, hy1, a.block, a.off, cs', haa, ?_, hcells, hy2, hy3⟩
        have h1 := hcells 0 cs'[0] (List.getElem?_eq_getElem (by omega))
        have h2 := World.block_lt_of_cell? (w := w) (a := ⟨a.block, a.off + i * n + 0, none⟩) h1
        exact h2)
      refine ⟨.lst xs, ⟨xs, rfl, fun y hy => ?_⟩, rfl, some a, cap, n, by rw [hxl], by omega, hm, (fun h => by cases h), (repDe_get xs 0).2 fun i x hx => ?_⟩
      · obtain ⟨i, hi⟩ := List.getElem?_of_mem hy
        exact (hxs i y hi).1
      · obtain ⟨_, b, o, cs, e, h1, h2, h3, h4⟩ := hxs i x hx
        exact ⟨b, o, cs, by rw [e], by simp, h1, by rw [Nat.zero_add]; exact h2, h3, h4⟩⟩
structure FRd where
  t : TypeId
  n : Nat
  p : D → Prop
end
def ArgRd (P : Program) (T : TypeId) (p : D → Prop) : Prop :=
  ∀ (H : Type) (enc : TypeId × Value → H) (w : World) (base : Nat) (v : Value) (d : DataW H) (pl : List MemPlace), Value.okWide P w .any base T v → DataW.Trod enc P w 0 (fun _ => true) true T v d pl →
    ∃ y, p y ∧ rep1 w [none] [.gone] (.d y) v
section
variable {P : Program} {T : TypeId} {n : Nat} {p : D → Prop}
theorem arg_cell (hR : RdD P T n p) (ha : ∀ y, p y → y.agg = false) (hv : ∀ (w : World) base v, Value.okWide P w .any base T v → v.cells.toList = [v]) : ArgRd P T p := fun H enc w base v d pl hok ht => by
  obtain ⟨fuel, hf⟩ := ht
  obtain ⟨y, h1, _, h2⟩ := hR.2 _ _ _ _ _ _ hf
  refine ⟨y, h1, ?_⟩
  rw [hv w base v hok] at h2
  unfold rep1
  rw [if_neg (by show ¬ (y.agg = true); rw [ha y h1]; simp)]
  exact h2
theorem arg_sl {E : TypeId} (hT : P.underlying T = some (.slice E)) (hR : RdD P T n p) (ha : ∀ y, p y → y.agg = false) : ArgRd P T p := arg_cell hR ha fun w base v h => by
  obtain ⟨a, l, c, rfl⟩ := okWide_slice hT h
  rfl
end
def args2 : List (D → Prop) → List D → Prop
  | [], ds => ds = []
  | p :: ps, ds => ∃ d ds', ds = d :: ds' ∧ p d ∧ args2 ps ds'
def argRds (P : Program) : List TypeId → List (D → Prop) → Prop
  | [], ps => ps = []
  | t :: ts, ps => ∃ p ps', ps = p :: ps' ∧ ArgRd P t p ∧ argRds P ts ps'
theorem law_of_pc {P : Program} {f : FuncId} {ts : List TypeId} {ps : List (D → Prop)} (hR : argRds P ts ps) (hpc : ∀ ds, args2 ps ds → PC P f (toVs ds) (.d (.bool true)) []) : LawCalls P f ts := by
  intro H enc W base args ds p hval hA
  have key : ∀ (ts : List TypeId) (ps : List (D → Prop)) (args : List Value) (ds : List (DataW H)) (pl : List MemPlace), argRds P ts ps → (∀ (j : Nat) t v, ts[j]? = some t → args[j]? = some v → Value.okWide P W .any base t v) →
      DataW.TrodAll enc P W 0 (fun _ => true) true ts args ds pl → ∃ ys, args2 ps ys ∧ repT W [none] [.gone] (toVs ys) args := by
    intro ts
    induction ts with
    | nil =>
      intro ps args ds pl hr _ hA
      obtain ⟨rfl, rfl, rfl⟩ := trodAll_nil hA
      cases hr
      exact ⟨[], rfl, rfl⟩
    | cons t ts ih =>
      intro ps args ds pl hr hv hA
      obtain ⟨v, vs, d, ds', p1, q1, rfl, rfl, rfl, h, r⟩ := ChangeShapes.trodAll_cons hA
      obtain ⟨p, ps', rfl, h1, h2⟩ := hr
      obtain ⟨y, y1, y2⟩ := h1 H enc W base v d p1 (hv 0 _ _ rfl rfl) h
      obtain ⟨ys, k1, k2⟩ := ih ps' vs ds' q1 h2 (fun j t v ht hv' => hv (j + 1) t v (by simpa using ht) (by simpa using hv')) r
      exact ⟨y :: ys, ⟨y, ys, rfl, y1, k1⟩, ⟨v, vs, rfl, y2, k2⟩⟩
  obtain ⟨ys, k1, k2⟩ := key ts ps args ds p hR hval hA
  refine ((hpc ys k1).run W [] args (by simp) (by simp) k2).mono ?_
  rintro e w' ⟨cv, M', rfl, hx, _, hr⟩
  exact ⟨by rw [rep_bool.1 hr], hx⟩
abbrev lstD {α : Type} (f : α → D) (xs : List α) : D := .lst (xs.map f)
def TPeak.D (x : TPeak) : D := .st [.int .i64 x.fStart, .int .i64 x.fTop, .int .i64 x.fEnd]
def TCharRange.D (x : TCharRange) : D := .st [.int .i64 x.fFrom, .int .i64 x.fCount, .int .i64 x.fGlyph]
def TSlot.D (x : TSlot) : D := .st [.int .i64 x.fGlyph, .int .i64 x.fX, .int .i64 x.fY, .int .i64 x.fAdvance, .int .i64 x.fFrom, .int .i64 x.fLen]
def TTable.D (x : TTable) : D := .st [.str x.fTag, .str x.fData]
def TAxisPoint.D (x : TAxisPoint) : D := .st [.int .i64 x.fFrom, .int .i64 x.fTo]
def TAxis.D (x : TAxis) : D := .st [.str x.fName, .int .i64 x.fMin, .int .i64 x.fDefault, .int .i64 x.fMax, .lst (x.fMap.map TAxisPoint.D)]
def TPt.D (x : TPt) : D := .st [.int .i64 x.fX, .int .i64 x.fY]
def TGlyphDelta.D (x : TGlyphDelta) : D := .st [.int .i64 x.fGlyph, .lst (x.fKnots.map (D.int .i64)), .lst (x.fMoves.map TPt.D), .int .i64 x.fAdvance]
def TMaster.D (x : TMaster) : D := .st [.lst (x.fPeaks.map TPeak.D), .lst (x.fDeltas.map TGlyphDelta.D)]
def TVariation.D (x : TVariation) : D := .st [.lst (x.fAxes.map TAxis.D), .lst (x.fMasters.map TMaster.D)]
def TKnot.D (x : TKnot) : D := .st [x.fAt.D, .bool x.fOn]
def TLoop.D (x : TLoop) : D := .st [.lst (x.fKnots.map TKnot.D)]
def TOutline.D (x : TOutline) : D := .st [.lst (x.fLoops.map TLoop.D)]
def TPart.D (x : TPart) : D := .st [.int .i64 x.fGlyph, x.fMove.D]
def TAnchor.D (x : TAnchor) : D := .st [.str x.fName, x.fAt.D]
def TGlyph.D (x : TGlyph) : D := .st [.str x.fName, .int .i64 x.fCode, .int .i64 x.fAdvance, x.fOutline.D, .lst (x.fParts.map TPart.D), .lst (x.fAnchors.map TAnchor.D), .str x.fHints]
def TGlyphSet.D (x : TGlyphSet) : D := .st [.int .i64 x.fUnit, .lst (x.fGlyphs.map TGlyph.D)]
def TRule.D (x : TRule) : D := .st [.lst (x.fBefore.map (lstD (D.int .i64))), .lst (x.fInput.map (lstD (D.int .i64))), .lst (x.fAfter.map (lstD (D.int .i64))), .lst (x.fOutput.map (D.int .i64))]
def TLookup.D (x : TLookup) : D := .st [.str x.fName, .lst (x.fRules.map TRule.D)]
def TKern.D (x : TKern) : D := .st [.lst (x.fLeft.map (D.int .i64)), .lst (x.fRight.map (D.int .i64)), .int .i64 x.fValue]
def TMarkRule.D (x : TMarkRule) : D := .st [.lst (x.fMarks.map (D.int .i64)), .lst (x.fBases.map (D.int .i64)), .str x.fAnchor]
def TJoin.D (x : TJoin) : D := .st [.int .i64 x.fGlyph, .int .i64 x.fKind, .int .i64 x.fInit, .int .i64 x.fMedi, .int .i64 x.fFina]
def TFeatures.D (x : TFeatures) : D := .st [.lst (x.fLookups.map TLookup.D), .lst (x.fKerns.map TKern.D), .lst (x.fMarks.map TMarkRule.D), .lst (x.fJoins.map TJoin.D)]
def TItem.D (x : TItem) : D := .st [.int .i64 x.fGlyph, .int .i64 x.fFrom, .int .i64 x.fLen]
theorem rd2_list {P : Program} {T E : TypeId} {n : Nat} {α : Type} {f : α → D} (hT : P.underlying T = some (.slice E)) (hc : P.cellsOf T = 1) (hn : 0 < n) (hE : RdD P E n fun d => ∃ x, d = f x) : RdD P T 1 fun d => ∃ xs : List α, d = .lst (xs.map f) :=
  rd2_imp (rd2_slice hT hc hn hE) fun d ⟨xs, e, h⟩ => by
    subst e
    have : ∀ xs : List D, (∀ x ∈ xs, ∃ y, x = f y) → ∃ ys : List α, xs = ys.map f := by
      intro xs
      induction xs with
      | nil => intro _; exact ⟨[], rfl⟩
      | cons x xs ih =>
        intro h
        obtain ⟨y, hy⟩ := h x (by simp)
        obtain ⟨ys, hys⟩ := ih fun z hz => h z (by simp [hz])
        exact ⟨y :: ys, by simp [hy, hys]⟩
    obtain ⟨ys, hys⟩ := this xs h
    exact ⟨ys, by rw [hys]⟩
theorem own : ownKnob Tryd.prog.godebug = none := by kernel_rfl
theorem laidOut : laidOutB Tryd.prog = true := by kernel_rfl
def smB (c : UInt8) : Bool := decide ((97 : Int) ≤ c.toNat) && decide ((c.toNat : Int) ≤ 122)
def dgB (c : UInt8) : Bool := decide ((48 : Int) ≤ c.toNat) && decide ((c.toNat : Int) ≤ 57)
theorem bgetN {s : ByteArray} {k : Nat} (h : k < s.size) : s.data.toList[k]? = some (s[k]'h) := by
  have h' : k < s.data.toList.length := h
  rw [List.getElem?_eq_getElem h']
  rfl
theorem toL_inj {a b : ByteArray} (h : a.toList = b.toList) : a = b := by
  rw [ByteArray.toList_eq, ByteArray.toList_eq] at h
  exact ByteArray.ext (Array.toList_inj.mp h)
theorem bget? {s : ByteArray} {k : Nat} (h : k < s.size) : s[k]? = some (s[k]'h) := by simp [h]
theorem dropN {s : ByteArray} {k : Nat} (h : k < s.size) : s.data.toList.drop k = s[k]'h :: s.data.toList.drop (k + 1) := by
  have := bgetN h
  have h' : k < s.data.toList.length := h
  rw [List.drop_eq_getElem_cons h']
  rfl
def pv {α : Type} (xs : List α) (k : Nat) : Option α := if k = 0 then none else xs[k - 1]?
theorem pv_succ {α : Type} (xs : List α) (k : Nat) : pv xs (k + 1) = xs[k]? := by simp [pv]
theorem pv_zero {α : Type} (xs : List α) : pv xs 0 = none := rfl
theorem pv_pos {α : Type} (xs : List α) {k : Nat} (h : 0 < k) : pv xs k = xs[k - 1]? := by rw [pv, if_neg (by omega)]
theorem drop_at {α : Type} {xs : List α} {k : Nat} {x : α} (hx : xs[k]? = some x) : xs.drop k = x :: xs.drop (k + 1) := by
  obtain ⟨h, rfl⟩ := List.getElem?_eq_some_iff.1 hx
  exact List.drop_eq_getElem_cons h
theorem at_lt' {α : Type} {xs : List α} {k : Nat} (h : k < xs.length) : ∃ x, xs[k]? = some x := ⟨xs[k], by simp [h]⟩
section
variable {α : Type}
def fdx (p : α → Bool) : List α → Nat → Int
  | [], _ => -1
  | x :: t, k => if p x = true then (k : Int) else fdx p t (k + 1)
theorem fdx_at {p : α → Bool} {xs : List α} {k : Nat} {x : α} (hx : xs[k]? = some x) : fdx p (xs.drop k) k = if p x = true then (k : Int) else fdx p (xs.drop (k + 1)) (k + 1) := by
  rw [drop_at hx, fdx]
theorem fdx_end {p : α → Bool} {xs : List α} {k : Nat} (hx : xs.length ≤ k) : fdx p (xs.drop k) k = -1 := by
  rw [List.drop_eq_nil_of_le hx, fdx]
theorem fdx_lt (p : α → Bool) : ∀ (xs : List α) (k : Nat), -1 ≤ fdx p xs k ∧ (0 ≤ fdx p xs k → (k : Int) ≤ fdx p xs k ∧ fdx p xs k < ((k + xs.length : Nat) : Int))
  | [], _ => by simp [fdx]
  | x :: t, k => by
    rw [fdx]
    have := fdx_lt p t (k + 1)
    simp only [List.length_cons] at this ⊢
    split <;> omega
theorem set_drop {l : List α} {k : Nat} {x : α} (h : k < l.length) : (l.set k x).drop k = x :: l.drop (k + 1) := by
  have e : (l.set k x)[k]? = some x := by simp [h]
  rw [drop_at e, List.drop_set_of_lt (by omega)]
end
theorem cloneTable_v (xs : List TTable) (hb : xs.length ≤ 1000000) : PC Tryd.prog 28 [.d (.lst (xs.map TTable.D))] (.own 1 0 xs.length) [.arr 2 (xs.map TTable.D) true] := by
  refine pc_intro ttOk (by kernel_rfl) Tryd.func28 rfl (by kernel_rfl) (by kernel_rfl) (by kernel_rfl) (fun hw => ?_)
  have hL : (xs.map TTable.D).length = xs.length := List.length_map _
  (conv => whnf)
  (repeat' (first | (refine stg_ ?_) | (refine NlW.mk' (fun hnl => ?_) ?_) | (refine br_ (fun hbr => ?_) (fun hbr => ?_))))
  · obtain rfl : xs = [] := List.eq_nil_of_length_eq_zero (by omega)
    exact ⟨⟨[none], ⟨rfl, trivial⟩, by decide, rfl, by decide, rfl, rfl, rfl⟩⟩
  · refine ⟨⟨[some 1], ⟨by decide, rfl, trivial, trivial⟩, by decide, rfl, by decide, ?_⟩⟩
    show V.own 1 0 (0 + (xs.map TTable.D).length) = _
    rw [Nat.zero_add, hL]
open Go.RowKit Go.Shelf
section
variable {P : Program} {ρ : Ren}
theorem rowR_owns {w : World} {v : Value} {F : List Nat} {E : TypeId} {bs : List UInt8} (h : rowR w v F E bs) : w.ownsRowF 0 E 1 v (Lib.byteCells bs).length (Lib.byteCells bs) := by
  refine ⟨by simp, ?_⟩
  rcases h with ⟨rfl, rfl, _⟩ | ⟨r, cap, cur, fz, rfl, _, h1, h2, h3, h4, h5, h6, _⟩
  · exact .inl ⟨rfl, rfl⟩
  · exact .inr ⟨r, cap, cur, fz, by rw [Lib.byteCells_length], Nat.zero_le _, h1, by rw [Lib.byteCells_length]; omega, by rw [Lib.byteCells_length]; exact h3, h4, by omega, by rw [Lib.byteCells_length, Nat.mul_one]; exact h6⟩
theorem rowR_block {w : World} {v : Value} {F : List Nat} {E : TypeId} {bs : List UInt8} (h : rowR w v F E bs) : ∀ k, v.ownBlock = some k ↔ k ∈ F := by
  intro k
  rcases h with ⟨rfl, rfl, rfl⟩ | ⟨r, cap, cur, fz, rfl, rfl, _⟩
  · simp [Value.ownBlock]
  · simp [Value.ownBlock, eq_comm]
theorem rowR_of {w : World} {base : Nat} {v : Value} {E : TypeId} {bs : List UInt8} (h : w.ownsRowF base E 1 v bs.length (Lib.byteCells bs)) (hn : v = .slice none 0 0 ↔ bs = []) :
    ∃ F, rowR w v F E bs ∧ ∀ x ∈ F, base ≤ x := by
  rcases h.2 with ⟨rfl, h0⟩ | ⟨r, cap, cur, fz, rfl, h1, h2, h3, h4, h5, h6, h7⟩
  · exact ⟨[], .inl ⟨rfl, hn.1 rfl, rfl⟩, by simp⟩
  · refine ⟨[r], .inr ⟨r, cap, cur, fz, rfl, rfl, h2, by omega, h4, h5, by omega, by rw [Nat.mul_one] at h7; exact h7, ?_⟩, by simpa using h1⟩
    have hb : bs ≠ [] := fun q => by have := hn.2 q; cases this
    have := List.length_pos_iff.2 hb
    omega
theorem run_app_row (w : World) (t u ty e : TypeId) (i : TypeInfo) (ht : P.underlying t = some (.slice e)) (hu : P.underlying u = some .string) (hi : P.info? e = some i) (hz : i.zero = some (.int .u8 0)) (hsize : i.size = 1) (hby : i.bytes = 1)
    (v : Value) (F : List Nat) (bs : List UInt8) (h : rowR w v F e bs) (s : ByteArray) (hbytes : bs.length + s.size ≤ 140737488355328) :
    ∃ v' w' F', (Builtin.append_ #[t, u] ty #[v, .string s]).run P w = .ok v' w' ∧ rowR w' v' F' e (bs ++ s.data.toList) ∧ w.grownBy w' v.ownBlock ∧ ∀ x ∈ F', x ∈ F ∨ w.heap.size ≤ x := by
  have hss : s.data.toList.length = s.size := Array.length_toList
  have hcells : Lib.byteCells bs ++ Lib.strCells s = Lib.byteCells (bs ++ s.data.toList) := by simp [Lib.byteCells, Lib.strCells]
  rcases h with ⟨rfl, rfl, rfl⟩ | ⟨g, cap, cur, fz, rfl, rfl, hg, hfz, hnc, hcm, hcs, htake, hne⟩
  · obtain ⟨v', w', h1, h2, h3, h4⟩ := Lib.run_append_own_stringF (P := P) w w.heap.size t u ty e i ht hu hi hz hsize hby (.slice none 0 0) 0 [] ⟨rfl, .inl ⟨rfl, rfl⟩⟩ s (by unfold maxLen; simp at hbytes; omega) (by simpa using hbytes) (Nat.le_refl _)
    obtain ⟨F', k1, k2⟩ := rowR_of (bs := s.data.toList) (by rw [hss]; simpa [Lib.byteCells, Lib.strCells] using h2) (by
      rw [h4]
      constructor
      · rintro ⟨_, q⟩; exact List.eq_nil_of_length_eq_zero (by omega)
      · intro q; exact ⟨rfl, by rw [← hss, q]; rfl⟩)
    exact ⟨v', w', F', h1, by simpa using k1, h3, fun x hx => .inr (k2 x hx)⟩
  · have hlen : (bs ++ s.data.toList).length = bs.length + s.size := by rw [List.length_append, hss]
    have hlc : (Lib.byteCells (bs ++ s.data.toList)).length = bs.length + s.size := by rw [Lib.byteCells_length, hlen]
    by_cases hroom : bs.length + s.size ≤ cap
    · have hr := Lib.run_append_room_stringF (P := P) w t u ty e i ht hu hi hsize g bs.length cap cur fz hg hfz s hroom (by omega)
      refine ⟨_, _, [g], hr, .inr ⟨g, cap, _, fz, by rw [hlen], rfl, setRow_heap w g cur _ e _ hg, by omega, by omega, hcm, ?_, ?_, hne⟩, ⟨rfl, rfl, rfl, by simp, fun k _ hk => setRow_other' hk⟩, by simp⟩
      · simp only [List.size_toArray, List.length_append, List.length_take, List.length_drop, Array.length_toList, Lib.strCells_length]
        omega
      · have e1 : cur.toList.take bs.length = Lib.byteCells bs := htake
        rw [e1, hcells]
        show List.take _ _ = Lib.byteCells (bs ++ s.data.toList)
        rw [hlen, ← hlc]
        exact List.take_left
    · have hown := rowR_owns (w := w) (E := e) (.inr ⟨g, cap, cur, fz, rfl, rfl, hg, hfz, hnc, hcm, hcs, htake, hne⟩ : rowR w (.slice (some ⟨g, 0, none⟩) bs.length cap) [g] e bs)
      have holds : ∀ j u, (Lib.byteCells bs)[j]? = some u → w.cell? ((⟨g, 0, none⟩ : Addr).add j) = some u := hown.cells (g := g) rfl
      have hr := Lib.run_append_grow_string (P := P) w t u ty e i (.int .u8 0) ht hu hi hz ⟨g, 0, none⟩ bs.length cap (Lib.byteCells bs) (by rw [hsize, Lib.byteCells_length, Nat.mul_one]) holds s (by omega) (by omega) (by rw [hby]; exact growslice_fits (by omega) (by omega))
      have hge := grownCap_ge w (bs.length + s.size) cap e
      have hcm2 : grownCap w (bs.length + s.size) cap e ≤ maxLen := grownCap_le_maxLen w (bs.length + s.size) cap e (by unfold maxLen; omega)
      refine ⟨_, _, [w.heap.size], hr, .inr ⟨w.heap.size, _, _, (0, 0), by rw [hlen], rfl, heap_alloc_new w.drew _, Nat.zero_le _, by rw [hlen]; exact hge, hcm2, ?_, ?_, by omega⟩, ⟨rfl, rfl, rfl, by simp, fun k hk _ => heap_alloc_old w.drew _ hk⟩, fun x hx => .inr (by simp at hx; omega)⟩
      · have hz1 : (Value.int IntKind.u8 0).cells.size = 1 := rfl
        simp only [Array.size_append, List.size_toArray, size_zeroCells, hz1, Lib.byteCells_length, Lib.strCells_length]
        omega
      · show List.take _ _ = Lib.byteCells (bs ++ s.data.toList)
        simp only [Array.toList_append, List.append_assoc]
        rw [← List.append_assoc, hcells, hlen, ← hlc]
        exact List.take_left
where
  setRow_other' {w : World} {g k : Nat} {cs : Array Value} {n cap : Nat} (hk : some k ≠ (Value.slice (some ⟨g, 0, none⟩) n cap).ownBlock) : (w.setRow g cs).heap[k]? = w.heap[k]? := Go.setRow_other w g k cs (fun e => hk (by simp [Value.ownBlock, e]))
theorem wpList_app_row {ops : Array Oper} {rest : List Oper} {o : Oper} {a : Act} {w : World} {Q : Exit → Act → World → Prop} (hgd : o.guard = none) (sl x : Operand) (t u : TypeId)
    (ho : o.op = .call { callee := .builtin .append, args := #[sl, x], argTypes := #[t, u] }) (e : TypeId) (i : TypeInfo) (ht : P.underlying t = some (.slice e)) (hu : P.underlying u = some .string) (hi : P.info? e = some i) (hz : i.zero = some (.int .u8 0))
    (hsize : i.size = 1) (hby : i.bytes = 1) (v : Value) (F : List Nat) (bs : List UInt8) (hs : a.eval sl = v) (hrow : rowR w v F e bs) (s : ByteArray) (hx : a.eval x = .string s) (hbytes : bs.length + s.size ≤ 140737488355328)
    (h : ∀ v' w' F', rowR w' v' F' e (bs ++ s.data.toList) → w.grownBy w' v.ownBlock → (∀ x ∈ F', x ∈ F ∨ w.heap.size ≤ x) → wpList P ops Q rest (a.put o.dst v') w') : wpList P ops Q (o :: rest) a w := by
  refine wpList_plain hgd fun K hK => ?_
  obtain ⟨v', w', F', hr, h2, h3, h4⟩ := run_app_row (P := P) w t u o.type e i ht hu hi hz hsize hby v F bs hrow s hbytes
  unfold Oper.wp execOp
  simp only [ho, resolve, invoke, builtin, Sem.run_bind, Sem.run_pure, Result.andThen_ok, List.map_toArray, List.map_cons, List.map_nil, hs, hx, hr]
  exact hK _ _ (h v' w' F' h2 h3 h4)
theorem setCell_heap0 {w : World} {g : Nat} {cs : Array Value} {T : TypeId} (h : w.heap[g]? = some (.cells cs T (0, 0))) (j : Nat) (v : Value) : (w.setCell ⟨g, j, none⟩ v).heap[g]? = some (.cells (cs.setIfInBounds j v) T (0, 0)) := by
  rw [setCell_eq_setRow w g j cs T (0, 0) v h]
  exact setRow_heap w g cs _ T _ h
theorem setCell_other0 {w : World} {g k : Nat} (hk : k ≠ g) (j : Nat) (v : Value) : (w.setCell ⟨g, j, none⟩ v).heap[k]? = w.heap[k]? := by
  simp [World.setCell, Array.getElem?_modify, Ne.symm hk]
theorem setCell_size0 {w : World} {g : Nat} (j : Nat) (v : Value) : (w.setCell ⟨g, j, none⟩ v).heap.size = w.heap.size := by simp [World.setCell]
theorem rowR_keep {w w' : World} {v : Value} {F : List Nat} {E : TypeId} {bs : List UInt8} (h : rowR w v F E bs) (hk : ∀ x ∈ F, w'.heap[x]? = w.heap[x]?) : rowR w' v F E bs := by
  rcases h with h | ⟨r, cap, cur, fz, e1, rfl, e3, e4⟩
  · exact .inl h
  · exact .inr ⟨r, cap, cur, fz, e1, rfl, by rw [hk r (by simp)]; exact e3, e4⟩
theorem rowR_lt {w : World} {v : Value} {F : List Nat} {E : TypeId} {bs : List UInt8} (h : rowR w v F E bs) : (∀ x ∈ F, x < w.heap.size) ∧ F.Nodup := by
  rcases h with ⟨_, _, rfl⟩ | ⟨r, cap, cur, fz, e1, rfl, e3, e4⟩
  · simp
  · exact ⟨fun x hx => by simp at hx; subst hx; exact lt_of_heap e3, by simp⟩
structure OnlyB (w w' : World) (b : Nat) : Prop where
  os : w'.os = w.os
  tape : w'.tape = w.tape
  output : w'.output = w.output
  size : w'.heap.size = w.heap.size
  ch : ∀ x, x ≠ b → w'.heap[x]? = w.heap[x]?
set_option maxHeartbeats 1000000 in
set_option maxRecDepth 100000 in
theorem str_p (L : Lays.n169 P ρ) (X : Builder.Extra P ρ) (b : Nat) (F : List Nat) (bs : List UInt8) (w : World) (h : bldR w b F (ρ.t 72) (ρ.t 5) bs) (hb : b ∉ F) :
    Calls P (ρ.f 169) #[.pointer (some ⟨b, 0, none⟩)] w fun e w' => e = .returned (.string ⟨bs.toArray⟩) ∧ bldR w' b F (ρ.t 72) (ρ.t 5) bs ∧ Kept w w' (b :: F) (b :: F) := by
  obtain ⟨p, v, hbk, hp, hrow⟩ := h
  have hlb := lt_of_heap hbk
  obtain ⟨l1, l2⟩ := rowR_lt hrow
  have mixed := L.mixed
  have t72 := L.t72; have a72 := L.a72; have z72 := L.z72; have v72 := L.v72; have u72 := run_underlying L.t72
  have t70 := L.t70; have a70 := L.a70; have z70 := L.z70; have v70 := L.v70; have u70 := run_underlying L.t70
  have t37 := L.t37; have a37 := L.a37; have z37 := L.z37; have v37 := L.v37; have u37 := run_underlying L.t37
  have t127 := L.t127; have a127 := L.a127; have z127 := L.z127; have v127 := L.v127; have u127 := run_underlying L.t127
  have t3 := L.t3; have a3 := L.a3; have z3 := L.z3; have v3 := L.v3; have u3 := run_underlying L.t3
  have t9 := L.t9; have a9 := L.a9; have z9 := L.z9; have v9 := L.v9; have u9 := run_underlying L.t9
  have t5 := X.t5; have a5 := X.a5; have z5 := X.z5; have v5 := X.v5; have u5 := run_underlying X.t5
  rcases hrow with ⟨rfl, rfl, rfl⟩ | ⟨g, cap, cur, fz, rfl, rfl, hg, hfz, hnc, hcm, hcs, htake, hne⟩
  · have hUS := Any.unsafeString_none L X
    have c1 : w.drew.cell? ⟨b, 1, none⟩ = some (.slice none 0 0) := by
      have : w.drew.heap[b]? = some (.cells #[p, .slice none 0 0] (ρ.t 72) (0, 0)) := hbk
      rw [Lib.cell_of_heap this]; rfl
    have hSD : (Builtin.unsafeSliceData_ #[(ρ.t 37)] (ρ.t 127) #[.slice none 0 0]).run P w.drew = .ok (.pointer none) w.drew := rfl
    go_enter L.f169, Body.n169_ntmps ρ
    go_wp2
    go_region_o
    all_goals (go_wp2; go_ret; exact ⟨rfl, ⟨p, _, hbk, hp, .inl ⟨rfl, rfl, rfl⟩⟩, ⟨rfl, rfl, rfl, Nat.le_refl _, fun _ _ _ => rfl, by simp, fun x hx => .inl hx, fun x hx => by simp at hx; subst hx; exact hlb⟩⟩)
  · rcases Decidable.em (bs = []) with hbs | hbs
    · subst hbs
      have c1 : w.drew.cell? ⟨b, 1, none⟩ = some (.slice (some ⟨g, 0, none⟩) 0 cap) := by
        have : w.drew.heap[b]? = some (.cells #[p, .slice (some ⟨g, 0, none⟩) 0 cap] (ρ.t 72) (0, 0)) := hbk
        rw [Lib.cell_of_heap this]; rfl
      have hSD : (Builtin.unsafeSliceData_ #[(ρ.t 37)] (ρ.t 127) #[.slice (some ⟨g, 0, none⟩) 0 cap]).run P w.drew = .ok (.pointer (some ⟨g, 0, none⟩)) w.drew :=
        Lib.run_unsafeSliceData_row _ _ _ _ _ _ (by omega)
      have hUS : (Builtin.unsafeString_ #[(ρ.t 127), (ρ.t 3)] (ρ.t 9) #[.pointer (some ⟨g, 0, none⟩), .int .i64 0]).run P w.drew = .ok (.string .empty) w.drew := Lib.run_unsafeString_none _ _ _ _ _
      have hgb : g ≠ b := fun q => hb (by simp [q])
      have hglt := lt_of_heap hg
      go_enter L.f169, Body.n169_ntmps ρ
      go_wp2
      go_region_o
      all_goals (go_wp2; go_ret; exact ⟨rfl, ⟨p, _, hbk, hp, .inr ⟨g, cap, cur, fz, rfl, rfl, hg, hfz, hnc, hcm, hcs, htake, hne⟩⟩, ⟨rfl, rfl, rfl, Nat.le_refl _, fun _ _ _ => rfl, by simpa using (Ne.symm hgb), fun x hx => .inl hx, fun x hx => by simp at hx; rcases hx with rfl | rfl; exact hlb; exact hglt⟩⟩)
    have hl0 : bs.length ≠ 0 := fun q => hbs (List.eq_nil_of_length_eq_zero q)
    have hgb : g ≠ b := fun q => hb (by simp [q])
    have c1 : w.drew.cell? ⟨b, 1, none⟩ = some (.slice (some ⟨g, 0, none⟩) bs.length cap) := by
      have : w.drew.heap[b]? = some (.cells #[p, .slice (some ⟨g, 0, none⟩) bs.length cap] (ρ.t 72) (0, 0)) := hbk
      rw [Lib.cell_of_heap this]; rfl
    have hSD : (Builtin.unsafeSliceData_ #[(ρ.t 37)] (ρ.t 127) #[.slice (some ⟨g, 0, none⟩) bs.length cap]).run P w.drew = .ok (.pointer (some ⟨g, 0, none⟩)) w.drew :=
      Lib.run_unsafeSliceData_row _ _ _ _ _ _ (by omega)
    have hown := rowR_owns (w := w) (E := ρ.t 5) (.inr ⟨g, cap, cur, fz, rfl, rfl, hg, hfz, hnc, hcm, hcs, htake, hne⟩ : rowR w (.slice (some ⟨g, 0, none⟩) bs.length cap) [g] (ρ.t 5) bs)
    have hUS : (Builtin.unsafeString_ #[(ρ.t 127), (ρ.t 3)] (ρ.t 9) #[.pointer (some ⟨g, 0, none⟩), .int .i64 bs.length]).run P w.drew = .ok (.string ⟨bs.toArray⟩) (w.drew.freeze ⟨g, 0, none⟩ bs.length) := by
      refine Lib.run_unsafeString_row w.drew (ρ.t 127) (ρ.t 3) (ρ.t 9) (ρ.t 5) L.t127 X.cellsByte g cur.size (by have hg' : w.drew.heap[g]? = some (.cells cur (ρ.t 5) fz) := hg; simp [World.shape?, hg']) bs hbs (by omega) (by unfold maxLen at hcm; omega) ?_
      intro j x hx
      exact hown.cells (g := g) rfl j (.int .u8 x.toNat) (by simp [Lib.byteCells, hx])
    obtain ⟨fz', hfr, hfr2⟩ : ∃ fz' : Nat × Nat, (w.drew.freeze ⟨g, 0, none⟩ bs.length).heap[g]? = some (.cells cur (ρ.t 5) fz') ∧ fz'.2 ≤ bs.length := by
      obtain ⟨lo, hi'⟩ := fz
      have hg' : w.drew.heap[g]? = some (.cells cur (ρ.t 5) (lo, hi')) := hg
      refine ⟨if lo == hi' then (0, 0 + bs.length) else (min lo 0, max hi' (0 + bs.length)), by simp [World.freeze, hl0, Array.getElem?_modify, hg'], ?_⟩
      have hfz' : hi' ≤ bs.length := hfz
      split
      · simp
      · show max hi' (0 + bs.length) ≤ _
        omega
    have hoth : ∀ x, x ≠ g → (w.drew.freeze ⟨g, 0, none⟩ bs.length).heap[x]? = w.heap[x]? := fun x hx => by
      simp only [World.freeze, hl0, if_false]
      rw [Array.getElem?_modify, if_neg (Ne.symm hx)]
      rfl
    have hfs : (w.drew.freeze ⟨g, 0, none⟩ bs.length).heap.size = w.heap.size := by
      simp only [World.freeze, hl0, if_false, Array.size_modify]
      rfl
    have hglt := lt_of_heap hg
    go_enter L.f169, Body.n169_ntmps ρ
    go_wp2
    go_region_o
    all_goals (go_wp2; go_ret; exact ⟨rfl, ⟨p, _, by rw [hoth b (Ne.symm hgb)]; exact hbk, hp, .inr ⟨g, cap, cur, fz', rfl, rfl, hfr, hfr2, hnc, hcm, hcs, htake, hne⟩⟩, ⟨by simp only [World.freeze, hl0, if_false]; rfl, by simp only [World.freeze, hl0, if_false]; rfl, by simp only [World.freeze, hl0, if_false]; rfl, by rw [hfs]; exact Nat.le_refl _, fun x _ hx => hoth x (fun q => hx (by simp [q])), by simpa using (Ne.symm hgb), fun x hx => .inl hx, fun x hx => by rw [hfs]; simp at hx; rcases hx with rfl | rfl; exact hlb; exact hglt⟩⟩)
end
structure BC (P : Program) (f : FuncId) (T E : TypeId) (bs : List UInt8) (rest : List V) (v : V) (bs' : List UInt8) : Prop where
  fn : ∃ fn, P.funcs[f]? = some fn ∧ (fn.name == "runtime.NumGoroutine") = false ∧ fn.body.isNone = false
  run : ∀ (w : World) (g : Nat) (F : List Nat) (args : List Value), repT w [none] [.gone] rest args → bldR w g F T E bs → g ∉ F →
    Calls P f (.pointer (some ⟨g, 0, none⟩) :: args).toArray w fun en w' => ∃ cv F', en = .returned cv ∧ (∀ M h, rep w' M h v cv) ∧ bldR w' g F' T E bs' ∧ Kept w w' (g :: F) (g :: F')
theorem BC.call {P : Program} {f : FuncId} {T E : TypeId} {bs bs' : List UInt8} {rest : List V} {v : V} (bc : BC P f T E bs rest v bs') {b : Nat} {e : Env} {h : List Blk} {K : V → Env → List Blk → Prop}
    (hb : h[b]? = some (.bld T E bs)) (hb0 : Nat.ble 1 b = true) (hr : plains rest = true) (H : K v e (h.set b (.bld T E bs'))) : CallM P f (.pB b [] 0 :: rest) e h K where
  fn := bc.fn
  run B X N M a w args R hargs := by
    obtain ⟨c0, args, rfl, h1, h2⟩ := hargs
    have h2' := plains_rep (w' := w) (M' := [none]) (h' := [.gone]) rest args hr h2
    have hb1 : 1 ≤ b := Nat.le_of_ble_eq_true hb0
    obtain ⟨g, F, m1, rfl⟩ := rep_pB.1 (rep_of_rep1 h1)
    have hbr : bldR w g F T E bs := R.inv.blk b _ _ hb m1
    have nd : (g :: F).Nodup := mO_nodup R.inv m1
    refine (bc.run w g F args h2' hbr (List.nodup_cons.1 nd).1).mono ?_
    rintro en w' ⟨cv, F', rfl, q1, q5, q2⟩
    have hxB : Ext B w' := by
      have hlo := R.inv.lo b _ _ hb m1 rfl
      refine Below.trans R.ext ⟨q2.os, q2.tape, q2.output, q2.size, fun k hk => q2.ch k (Nat.lt_of_lt_of_le hk R.base) (fun hm => ?_)⟩
      have := hlo k hm
      omega
    have q5' := q5
    obtain ⟨p, vv, hbk, _, hrow⟩ := q5'
    have hbk0 := hbr
    obtain ⟨p0, vv0, hbk0, _, _⟩ := hbk0
    obtain ⟨M', R', _, _⟩ := R.reset (w' := w') hxB m1 (by omega) hb (.inl rfl) [] [] (by simp) (by simp) (by simp) (by simp) (m' := some (g, F')) q2.nd
      (fun x hx => (q2.sub x hx).imp id (fun q => .inr q)) q2.hi q2.size (fun x hx hxm => q2.ch x hx hxm) (k' := .bld T E bs') rfl
      (fun _ g1 F1 e1 => by
        cases e1
        refine ⟨⟨F', rfl⟩, ?_, fun arr1 t1 hg1 => ?_⟩
        · simp only [nOf, hb, List.getElem?_set_self (List.getElem?_eq_some_iff.1 hb).1]
        · rw [hbk0] at hg1
          cases hg1
          exact ⟨_, hbk, rfl⟩)
      (fun M' h' _ => q5)
    exact ⟨v, cv, e, _, M', rfl, H, R', q1 _ _⟩
theorem clb_ {P : Program} {f : FuncId} {T E : TypeId} {bs bs' : List UInt8} {rest : List V} {v : V} {b : Nat} {e : Env} {h : List Blk} {K : V → Env → List Blk → Prop} {Q : Prop} (bc : BC P f T E bs rest v bs') (H : Q) (hb : h[b]? = some (.bld T E bs) := by rfl)
    (hb0 : Nat.ble 1 b = true := by rfl) (hr : plains rest = true := by rfl) (hk : Q → K v e (h.set b (.bld T E bs')) := by (intro H; (conv => whnf); exact H)) : CallW P false f (.pB b [] 0 :: rest) e h K :=
  ⟨.inr ⟨rfl, bc.call hb hb0 hr (hk H)⟩⟩
section
variable {P : Program} {ρ : Ren}
theorem nilIface_top {w : World} {M : MM} {h : List Blk} : rep1 w M h .top .nilIface := by
  unfold rep1
  rw [if_neg (by simp [V.isAgg])]
  exact ⟨_, rfl, rfl⟩
theorem bc_str (L : Lays.n169 P ρ) (X : Builder.Extra P ρ) {fn : Func} (h1 : P.funcs[ρ.f 169]? = some fn) (h2 : (fn.name == "runtime.NumGoroutine") = false) (h3 : fn.body.isNone = false) (bs : List UInt8) :
    BC P (ρ.f 169) (ρ.t 72) (ρ.t 5) bs [] (.d (.str ⟨bs.toArray⟩)) bs where
  fn := ⟨fn, h1, h2, h3⟩
  run w g F args hargs hb hg := by
    cases hargs
    have hsz : bs.length ≤ maxLen := by
      obtain ⟨p, v, _, _, hr⟩ := hb
      rcases hr with ⟨_, rfl, _⟩ | ⟨r, cap, cur, fz, _, _, _, _, q1, q2, _⟩
      · simp
      · omega
    refine (str_p L X g F bs w hb hg).mono ?_
    rintro en w' ⟨rfl, k1, k2⟩
    exact ⟨_, F, rfl, fun M h => rep_str.2 ⟨rfl, hsz⟩, k1, k2⟩
end
structure PR (P : Program) (f : FuncId) (n : Nat) (xs : List D) (rest : List V) (m : Nat) (ys : List D) : Prop where
  fn : ∃ fn, P.funcs[f]? = some fn ∧ (fn.name == "runtime.NumGoroutine") = false ∧ fn.body.isNone = false
  len : ys.length = xs.length
  le : m ≤ xs.length
  run : ∀ (w : World) (g : Nat) (t : TypeId) (arr : Array Value) (cap : Nat) (F : List Nat) (args : List Value), w.heap[g]? = some (.cells arr t (0, 0)) → (g :: F).Nodup → (∀ x ∈ F, x < w.heap.size) →
    xs.length ≤ cap → cap ≤ maxLen → cap * n ≤ arr.size → ownDe w arr n xs 0 F → repT w [none] [.gone] rest args →
    Calls P f (.slice (some ⟨g, 0, none⟩) xs.length cap :: args).toArray w fun en w' => ∃ arr' F', en = .returned (.slice (some ⟨g, 0, none⟩) m cap) ∧ Kept w w' (g :: F) (g :: F') ∧
      w'.heap[g]? = some (.cells arr' t (0, 0)) ∧ arr'.size = arr.size ∧ ownDe w' arr' n ys 0 F'
  nil : xs = [] → ∀ (w : World) (a : Option Addr) (cap : Nat) (args : List Value), cap ≤ maxLen → (a = none → cap = 0) → repT w [none] [.gone] rest args →
    Calls P f (.slice a 0 cap :: args).toArray w fun en w' => en = .returned (.slice a 0 cap) ∧ Ext w w'
theorem PR.call {P : Program} {f : FuncId} {n n0 : Nat} {xs ys : List D} {rest : List V} {m : Nat} (pk : PR P f n xs rest m ys) (hn0 : xs ≠ [] → n0 = n) {b len : Nat} {e : Env} {h : List Blk} {K : V → Env → List Blk → Prop}
    (hb : h[b]? = some (.arr n0 xs true)) (hl : len = xs.length) (hb0 : Nat.ble 1 b = true) (hr : plains rest = true) (H : K (.own b 0 m) e (h.set b (.arr n0 ys true))) : CallM P f (.own b 0 len :: rest) e h K where
  fn := pk.fn
  run B X N M a w args R hargs := by
    obtain ⟨c0, args, rfl, h1, h2⟩ := hargs
    have h2' := plains_rep (w' := w) (M' := [none]) (h' := [.gone]) rest args hr h2
    have hb1 : 1 ≤ b := Nat.le_of_ble_eq_true hb0
    subst hl
    obtain ⟨ad, cap, rfl, k1, k2, k3, k4⟩ := rep_own.1 (rep_of_rep1 h1)
    by_cases hx : xs = []
    · have hy : ys = [] := List.eq_nil_of_length_eq_zero (by rw [pk.len, hx]; rfl)
      subst hx
      subst hy
      have hm : m = 0 := by have := pk.le; simpa using this
      subst hm
      refine (pk.nil rfl w ad cap args k2 k3 h2').mono ?_
      rintro en w' ⟨rfl, q2⟩
      rw [show h.set b (.arr n0 [] true) = h from set_self h b _ hb] at H
      have mv := q2.mv (M := M) (h := h) R.inv.hi
      exact ⟨.own b 0 0, _, e, h, M, rfl, H, R.step (R.ext.trans q2) (R.inv.ext q2) mv rfl rfl, rep_mv mv (.own b 0 0) _ trivial (rep_of_rep1 h1)⟩
    · obtain rfl := hn0 hx
      have hn : nOf h b = n0 := by simp [nOf, hb]
      have hc : cap ≠ 0 := fun q => hx (List.eq_nil_of_length_eq_zero (by omega))
      rcases k4 with k4 | ⟨g, F, arr, t, m1, m2, m3, m4⟩
      · exact absurd k4 hc
      · subst m2
        obtain ⟨arr0, t0, r1, r2, r3⟩ : ∃ arr t, w.heap[g]? = some (.cells arr t (0, 0)) ∧ xs.length * n0 ≤ arr.size ∧ (if true = true then ownDe w arr n0 xs 0 F else F = [] ∧ extDe M.O w arr n0 xs 0) := R.inv.blk b _ _ hb m1
        rw [m3] at r1
        cases r1
        rw [if_pos rfl] at r3
        have nd : (g :: F).Nodup := by
          have := mO_nodup R.inv m1
          exact this
        rw [hn, Nat.zero_mul]
        refine (pk.run w g t arr cap F args m3 nd (fun x hx => R.inv.hi x (mem_O m1 (by simp [mO, hx]))) k1 k2 (by rw [Nat.zero_add, hn] at m4; exact m4) r3 h2').mono ?_
        rintro en w' ⟨arr', F', rfl, q2, q3, q4, q5⟩
        have hxB : Ext B w' := by
          have hlo := R.inv.lo b _ _ hb m1 rfl
          refine Below.trans R.ext ⟨q2.os, q2.tape, q2.output, q2.size, fun k hk => q2.ch k (Nat.lt_of_lt_of_le hk R.base) (fun hm => ?_)⟩
          have := hlo k hm
          omega
        have hnf : nOf (h.set b (.arr n0 ys true)) b = n0 := by
          unfold nOf; rw [List.getElem?_set_self (List.getElem?_eq_some_iff.1 hb).1]
        obtain ⟨M', R', hM', _⟩ := R.reset (w' := w') hxB m1 (by omega) hb (.inl rfl) [] [] (by simp) (by simp) (by simp) (by simp) (m' := some (g, F')) q2.nd
          (fun x hx => (q2.sub x hx).imp id (fun q => .inr q)) q2.hi q2.size (fun x hx hxm => q2.ch x hx hxm) (k' := .arr n0 ys true) rfl
          (fun _ g1 F1 e1 => by
            cases e1
            refine ⟨⟨F', rfl⟩, by rw [hnf, hn], fun arr1 t1 hg1 => ?_⟩
            rw [m3] at hg1
            cases hg1
            exact ⟨arr', q3, q4⟩)
          (fun M' h' _ => ⟨arr', t, q3, by
            have : xs.length * n0 ≤ cap * n0 := Nat.mul_le_mul_right n0 k1
            rw [pk.len, q4]; rw [Nat.zero_add, hn] at m4; omega, by rw [if_pos rfl]; exact q5⟩)
        refine ⟨.own b 0 m, _, e, _, M', rfl, H, R', rep_own.2 ⟨_, cap, rfl, Nat.le_trans pk.le k1, k2, by simp, .inr ⟨g, F', arr', t, hM', ?_, q3, ?_⟩⟩⟩
        · rw [Nat.zero_mul]
        · rw [hnf, q4]; rw [hn] at m4; exact m4
theorem CallW.useP {P : Program} {f : FuncId} {n m : Nat} {xs ys : List D} {rest : List V} (pk : PR P f n xs rest m ys) {b len : Nat} {e : Env} {h : List Blk} {K : V → Env → List Blk → Prop}
    (hb : h[b]? = some (.arr n xs true)) (hl : len = xs.length) (hb0 : Nat.ble 1 b = true) (hr : plains rest = true) (H : K (.own b 0 m) e (h.set b (.arr n ys true))) : CallW P false f (.own b 0 len :: rest) e h K :=
  ⟨.inr ⟨rfl, pk.call (fun _ => rfl) hb hl hb0 hr H⟩⟩
theorem clp_ {P : Program} {f : FuncId} {e : Env} {h : List Blk} {K : V → Env → List Blk → Prop} {Q : Prop} {n m b len : Nat} {xs ys : List D} {rest : List V} (pk : PR P f n xs rest m ys) (H : Q) (hb : h[b]? = some (.arr n xs true) := by rfl) (hl : len = xs.length := by (first | rfl | exact (List.length_map _).symm | (simp; done) | omega)) (hb0 : Nat.ble 1 b = true := by rfl)
    (hr : plains rest = true := by rfl) (hk : Q → K (.own b 0 m) e (h.set b (.arr n ys true)) := by (intro H; (conv => whnf); exact H)) : CallW P false f (.own b 0 len :: rest) e h K := CallW.useP pk hb hl hb0 hr (hk H)
open Go.RowKit Go.Shelf Go.Lib
theorem setCells_arr {t : TypeId} : ∀ (vs : List Value) (w : World) (g o : Nat) (arr : Array Value), w.heap[g]? = some (.cells arr t (0, 0)) → o + vs.length ≤ arr.size →
    ∃ arr' : Array Value, (w.setCells g o vs).heap[g]? = some (.cells arr' t (0, 0)) ∧ arr'.size = arr.size ∧ (∀ k, o ≤ k → k < o + vs.length → arr'[k]? = vs[k - o]?) ∧ (∀ k, k < o ∨ o + vs.length ≤ k → arr'[k]? = arr[k]?) ∧
      (∀ x, x ≠ g → (w.setCells g o vs).heap[x]? = w.heap[x]?) ∧ (w.setCells g o vs).heap.size = w.heap.size ∧ (w.setCells g o vs).os = w.os ∧ (w.setCells g o vs).tape = w.tape ∧ (w.setCells g o vs).output = w.output
  | [], w, g, o, arr, hg, hl => ⟨arr, hg, rfl, fun k h1 h2 => by simp at h2; omega, fun k _ => rfl, fun x _ => rfl, rfl, rfl, rfl, rfl⟩
  | v :: r, w, g, o, arr, hg, hl => by
    simp only [List.length_cons] at hl
    obtain ⟨arr', h1, h2, h3, h4, h5, h6, h7, h8, h9⟩ := setCells_arr r (w.setCell ⟨g, o, none⟩ v) g (o + 1) (arr.setIfInBounds o v) (setCell_heap0 hg o v) (by simp; omega)
    refine ⟨arr', h1, by rw [h2]; simp, fun k hk1 hk2 => ?_, fun k hk => ?_, fun x hx => ?_, ?_, h7, h8, h9⟩
    · simp only [List.length_cons] at hk2
      by_cases hk : k = o
      · subst hk
        rw [h4 k (.inl (by omega))]
        simp [show k < arr.size by omega]
      · rw [h3 k (by omega) (by omega), show k - o = (k - (o + 1)) + 1 by omega, List.getElem?_cons_succ]
    · simp only [List.length_cons] at hk
      rw [h4 k (by omega), Array.getElem?_setIfInBounds_ne (by omega)]
    · show ((w.setCell ⟨g, o, none⟩ v).setCells g (o + 1) r).heap[x]? = _
      rw [h5 x hx, setCell_other0 hx]
    · show ((w.setCell ⟨g, o, none⟩ v).setCells g (o + 1) r).heap.size = _
      rw [h6, setCell_size0]
def tbC : List TTable → List Value
  | [] => []
  | x :: t => .string x.fTag :: .string x.fData :: tbC t
theorem tbC_len : ∀ xs : List TTable, (tbC xs).length = 2 * xs.length
  | [] => rfl
  | x :: t => by simp only [tbC, List.length_cons, tbC_len t]; omega
theorem tbC_at : ∀ (xs : List TTable) (k : Nat) (x : TTable), xs[k]? = some x → (tbC xs)[2 * k]? = some (.string x.fTag) ∧ (tbC xs)[2 * k + 1]? = some (.string x.fData)
  | [], k, x, h => by simp at h
  | y :: t, 0, x, h => by obtain rfl : y = x := by simpa using h
                          exact ⟨rfl, rfl⟩
  | y :: t, k + 1, x, h => by
    have := tbC_at t k x (by simpa using h)
    rw [show 2 * (k + 1) = 2 * k + 1 + 1 by omega, tbC, List.getElem?_cons_succ, List.getElem?_cons_succ, List.getElem?_cons_succ, List.getElem?_cons_succ]
    exact this
theorem tbC_one : ∀ (xs : List TTable), ∀ v ∈ tbC xs, v.oneCell' = true
  | [], v, h => by simp [tbC] at h
  | x :: t, v, h => by
    simp only [tbC, List.mem_cons] at h
    rcases h with rfl | rfl | h
    · rfl
    · rfl
    · exact tbC_one t v h
theorem tab_cells {w : World} {arr : Array Value} : ∀ (xs : List TTable) (i : Nat) (F : List Nat), ownDe w arr 2 (xs.map TTable.D) i F → F = [] ∧ (∀ (k : Nat) (v : Value), (tbC xs)[k]? = some v → arr[i * 2 + k]? = some v) ∧ ∀ x ∈ xs, x.fTag.size ≤ maxLen ∧ x.fData.size ≤ maxLen
  | [], i, F, h => ⟨h, by simp [tbC], by simp⟩
  | x :: t, i, F, h => by
    obtain ⟨F1, F2, ces, rfl, h0, h1, h2, h3⟩ := h
    obtain ⟨rfl, ih, ih2⟩ := tab_cells t (i + 1) F2 h3
    have h2' : ownDs w [D.str x.fTag, D.str x.fData] F1 ces := h2
    obtain ⟨G1, G2, c1, c2, rfl, rfl, ⟨rfl, rfl, s1⟩, G3, G4, c3, c4, rfl, rfl, ⟨rfl, rfl, s2⟩, rfl, rfl⟩ := h2'
    refine ⟨rfl, fun k v hk => ?_, fun y hy => ?_⟩
    · rcases k with _ | _ | k
      · obtain rfl : Value.string x.fTag = v := by simpa [tbC] using hk
        exact h1 0 _ rfl
      · obtain rfl : Value.string x.fData = v := by simpa [tbC] using hk
        exact h1 1 _ rfl
      · have := ih k v (by simpa [tbC] using hk)
        rwa [show (i + 1) * 2 + k = i * 2 + (k + 1 + 1) by omega] at this
    · rcases List.mem_cons.1 hy with rfl | hy
      · exact ⟨s1, s2⟩
      · exact ih2 y hy
theorem cells_tab {w : World} {arr : Array Value} : ∀ (xs : List TTable) (i : Nat), (∀ (k : Nat) (v : Value), (tbC xs)[k]? = some v → arr[i * 2 + k]? = some v) → (∀ x ∈ xs, x.fTag.size ≤ maxLen ∧ x.fData.size ≤ maxLen) → ownDe w arr 2 (xs.map TTable.D) i []
  | [], i, _, _ => rfl
  | x :: t, i, h, hs => by
    obtain ⟨s1, s2⟩ := hs x (by simp)
    refine ⟨[], [], [.string x.fTag, .string x.fData], rfl, rfl, fun j v hj => ?_, ?_, cells_tab t (i + 1) (fun k v hk => ?_) (fun y hy => hs y (by simp [hy]))⟩
    · rcases j with _ | _ | j
      · exact h 0 v (by simpa [tbC] using hj)
      · exact h 1 v (by simpa [tbC] using hj)
      · simp at hj
    · show ownDs w [D.str x.fTag, D.str x.fData] [] _
      exact ⟨[], [], [_], [_], rfl, rfl, ⟨rfl, rfl, s1⟩, [], [], [_], [], rfl, rfl, ⟨rfl, rfl, s2⟩, rfl, rfl⟩
    · have := h (k + 1 + 1) v (by simpa [tbC] using hk)
      rwa [show i * 2 + (k + 1 + 1) = (i + 1) * 2 + k by omega] at this
theorem run_clear_any {P : Program} (w : World) (t e ty : TypeId) (z : Value) (ht : P.underlying t = some (.slice e)) (hv : ∀ w, (zeroValue e).run P w = .ok z w) (b o n c : Nat) (hn : 0 < n) (zs : List Value) (hz : (Builtin.zeroCells z.cells n).toList = zs) (h1 : ∀ v ∈ zs, v.oneCell' = true)
    (hc : ∀ j, j < zs.length → (w.cell? ⟨b, o + j, none⟩).isSome = true) (hf : ∀ j, j < zs.length → w.frozen? ⟨b, o + j, none⟩ = false) :
    (Builtin.clear_ #[t] ty #[.slice (some ⟨b, o, none⟩) n c]).run P w = .ok (.tuple #[]) (w.setCells b o zs) := by
  have hst := run_storeCells_cells (P := P) b o zs 0 w (by simpa using hc) (by simpa using hf) h1
  simp only [Nat.add_zero] at hst
  obtain ⟨m, rfl⟩ : ∃ m, n = m + 1 := ⟨n - 1, by omega⟩
  simp [Builtin.clear_, run_underlying ht, hv, hz, hst]
theorem tbC_app : ∀ (xs ys : List TTable), tbC (xs ++ ys) = tbC xs ++ tbC ys
  | [], ys => rfl
  | x :: t, ys => by simp [tbC, tbC_app t ys]
theorem tbC_take : ∀ (i : Nat) (xs : List TTable), tbC (xs.take i) = (tbC xs).take (i * 2)
  | 0, xs => by simp [tbC]
  | i + 1, [] => by simp [tbC]
  | i + 1, x :: t => by rw [List.take_succ_cons, tbC, tbC_take i t, show (i + 1) * 2 = i * 2 + 1 + 1 by omega, tbC, List.take_succ_cons, List.take_succ_cons]
theorem zc_list : ∀ n : Nat, (Builtin.zeroCells #[.string .empty, .string .empty] n).toList = tbC (List.replicate n ⟨.empty, .empty⟩) := by
  intro n
  apply List.ext_getElem?
  intro k
  have hl : (tbC (List.replicate n ⟨.empty, .empty⟩)).length = 2 * n := by rw [tbC_len, List.length_replicate]
  by_cases hk : k < 2 * n
  · have e1 : (Builtin.zeroCells #[.string .empty, .string .empty] n).toList[k]? = some (.string .empty) := by
      have h2 : k % 2 = 0 ∨ k % 2 = 1 := by omega
      rcases h2 with h2 | h2 <;> simp [Builtin.zeroCells, show k < n * 2 by omega, h2]
    have h2 := tbC_at (List.replicate n ⟨.empty, .empty⟩) (k / 2) ⟨.empty, .empty⟩ (by rw [List.getElem?_replicate, if_pos (by omega)])
    rw [e1]
    rcases Nat.mod_two_eq_zero_or_one k with h | h
    · rw [show 2 * (k / 2) = k by omega] at h2; exact h2.1.symm
    · rw [show 2 * (k / 2) + 1 = k by omega] at h2; exact h2.2.symm
  · rw [List.getElem?_eq_none (by simp [Builtin.zeroCells]; omega), List.getElem?_eq_none (by omega)]
set_option maxHeartbeats 4000000 in
set_option maxRecDepth 1000000 in
theorem del_p (g cap i j : Nat) (xs : List TTable) (t : TypeId) (arr : Array Value) (w : World) (hg : w.heap[g]? = some (.cells arr t (0, 0))) (hn : xs.length ≤ cap) (hm : cap ≤ 9223372036854775807) (hcap : cap * 2 ≤ arr.size) (hij : i < j) (hj : j ≤ xs.length)
    (hel : ∀ (k : Nat) (v : Value), (tbC xs)[k]? = some v → arr[k]? = some v) :
    Calls Tryd.prog 33 #[.slice (some ⟨g, 0, none⟩) xs.length cap, .int .i64 i, .int .i64 j] w fun e w' => e = .returned (.slice (some ⟨g, 0, none⟩) (xs.length - (j - i)) cap) ∧
      w' = (w.drew.setCells g (0 + i * 2) (tbC (xs.drop j))).setCells g ((i + (xs.length - j)) * 2) (Builtin.zeroCells #[.string .empty, .string .empty] (j - i)).toList := by
  obtain ⟨i0, hi, hz0, hz1, hz2⟩ := info_parts (show (Tryd.prog.info? 35).map (fun i => (i.zero, i.size, i.bytes)) = some (some (.agg #[.string .empty, .string .empty]), 2, 32) by kernel_rfl)
  have hv : ∀ w, (zeroValue 35).run Tryd.prog w = .ok (.agg #[.string .empty, .string .empty]) w := fun w => by
    simp [zeroValue, typeInfo, hi, hz0]
  obtain ⟨news, hnews⟩ : ∃ news, news = tbC (xs.drop j) := ⟨_, rfl⟩
  have hlen : news.length = (xs.length - j) * 2 := by rw [hnews, tbC_len, List.length_drop]; omega
  have hget : ∀ (k : Nat) (u : Value), news[k]? = some u → arr[j * 2 + k]? = some u := fun k u hk => by
    refine hel _ _ ?_
    have key : ∀ (xs : List TTable) (j : Nat), (tbC xs).drop (j * 2) = tbC (xs.drop j) := by
      intro xs
      induction xs with
      | nil => intro j; simp [tbC]
      | cons x t ih =>
        intro j
        cases j with
        | zero => simp
        | succ j =>
          rw [show (j + 1) * 2 = j * 2 + 1 + 1 by omega, tbC, List.drop_succ_cons, List.drop_succ_cons, List.drop_succ_cons]
          exact ih j
    rw [hnews, ← key, List.getElem?_drop] at hk
    exact hk
  have hcl0 : ∀ k, k < cap * 2 → (w.drew.cell? ⟨g, k, none⟩).isSome = true ∧ w.drew.frozen? ⟨g, k, none⟩ = false := fun k hk => by
    have hgd : w.drew.heap[g]? = some (.cells arr t (0, 0)) := hg
    constructor
    · simp [World.cell?, hgd, show k < arr.size by omega]
    · simp [World.frozen?, hgd]
  obtain ⟨A, hA, hsrc⟩ : ∃ A : Addr, (if cap = j then some (⟨g, 0, none⟩ : Addr) else some ⟨g, 0 + j * 2, none⟩) = some A ∧ Hid (∀ t u, news[t]? = some u → w.drew.cell? (A.add t) = some u) := by
    by_cases h : cap = j
    · refine ⟨⟨g, 0, none⟩, by simp [h], fun t u hu => ?_⟩
      have h0 : news.length = 0 := by rw [hlen]; omega
      rw [List.length_eq_zero_iff.1 h0] at hu
      simp at hu
    · refine ⟨⟨g, 0 + j * 2, none⟩, by simp [h], fun t u hu => ?_⟩
      have hgd : w.drew.heap[g]? = some (.cells arr _ (0, 0)) := hg
      rw [Addr.add_lit]
      simp [World.cell?, hgd, hget t u hu]
  have s1 : Hid (news.length = (xs.length - j) * 2) := hlen
  have s2 : Hid (∀ u ∈ news, u.oneCell' = true) := by rw [hnews]; exact tbC_one _
  have s3 : Hid (∀ t, t < news.length → (w.drew.cell? ⟨g, 0 + i * 2 + t, none⟩).isSome = true ∧ w.drew.frozen? ⟨g, 0 + i * 2 + t, none⟩ = false) := by
    intro t ht
    rw [hlen] at ht
    exact hcl0 _ (by omega)
  obtain ⟨W1, hW1⟩ : ∃ W1, W1 = w.drew.setCells g (0 + i * 2) news := ⟨_, rfl⟩
  obtain ⟨zs, hzs⟩ : ∃ zs, zs = (Builtin.zeroCells #[.string .empty, .string .empty] (j - i)).toList := ⟨_, rfl⟩
  have hzl : zs.length = (j - i) * 2 := by rw [hzs]; simp [Builtin.zeroCells]
  have hzo : ∀ v ∈ zs, v.oneCell' = true := by
    rw [hzs, zc_list]; exact tbC_one _
  have hW2 : ∀ k, k < cap * 2 → (W1.cell? ⟨g, k, none⟩).isSome = true ∧ W1.frozen? ⟨g, k, none⟩ = false := fun k hk => by
    have hgd : w.drew.heap[g]? = some (.cells arr t (0, 0)) := hg
    obtain ⟨a1, e1, e2, -⟩ := setCells_arr news w.drew g (0 + i * 2) arr hgd (by rw [hlen]; omega)
    rw [← hW1] at e1
    constructor
    · simp [World.cell?, e1, show k < a1.size by omega]
    · simp [World.frozen?, e1]
  have hcl : ∀ ty, (Builtin.clear_ #[24] ty #[.slice (some ⟨g, (i + (xs.length - j)) * 2, none⟩) (xs.length - (i + (xs.length - j))) (cap - (i + (xs.length - j)))]).run Tryd.prog W1 = .ok (.tuple #[]) (W1.setCells g ((i + (xs.length - j)) * 2) zs) := fun ty =>
    run_clear_any W1 _ _ ty _ Tryd.underlying24 hv g _ _ _ (by omega) zs (by rw [hzs, show xs.length - (i + (xs.length - j)) = j - i by omega]; rfl) hzo
      (fun k hk => (hW2 _ (by omega)).1) (fun k hk => (hW2 _ (by omega)).2)
  have hic : i ≤ cap := by omega
  have hjc : j ≤ cap := by omega
  rw [← hnews, ← hzs, ← hW1]
  have hW : Hid (W1 = w.drew.setCells g (0 + i * 2) news) := hW1
  clear hW1 hget hnews hlen hel hcl0 hzs hzl hzo hv hW2
  have mixed : Tryd.prog.follows .mixedOrders = true := by kernel_rfl
  go_enter Tryd.func33, Tryd.ntmps33
  go_wp2_with fail
  go_region_law_o (refine step_append_room rfl (.tmp 22) (.tmp 25) 24 rfl 35 i0 2 Tryd.underlying24 hi hz1 g 0 i cap (by simp [Act.eval, Act.put]) A (xs.length - j) (cap - j) news (by simp [Act.eval, Act.put]; simpa using hA) s1.out hsrc.out s2.out (by omega) s3.out ?_; rw [← hW.out])
  go_wp2
  all_goals go_ret
  all_goals exact ⟨by rw [show xs.length - (j - i) = i + (xs.length - j) by omega]; rfl, rfl⟩
def delL (i j : Nat) (xs : List TTable) : List TTable := xs.take i ++ xs.drop j ++ List.replicate (j - i) ⟨.empty, .empty⟩
theorem delL_len {i j : Nat} {xs : List TTable} (h1 : i ≤ j) (h2 : j ≤ xs.length) : (delL i j xs).length = xs.length := by simp [delL]; omega
theorem Delete_r (xs : List TTable) (i j : Nat) (hij : i < j) (hj : j ≤ xs.length) : PR Tryd.prog 33 2 (xs.map TTable.D) [.d (.int .i64 (i : Nat)), .d (.int .i64 (j : Nat))] (xs.length - (j - i)) ((delL i j xs).map TTable.D) where
  fn := ⟨_, Tryd.func33, rfl, rfl⟩
  len := by rw [List.length_map, List.length_map, delL_len (by omega) hj]
  le := by rw [List.length_map]; omega
  run w g t arr cap F args hg hnd hlt h1 h2 h3 hel hr := by
    obtain ⟨c1, r1, rfl, q1, c2, r2, rfl, q2, rfl⟩ := hr
    obtain ⟨rfl, -⟩ := rep_int.1 (rep_of_rep1 q1)
    obtain ⟨rfl, -⟩ := rep_int.1 (rep_of_rep1 q2)
    rw [List.length_map] at h1 ⊢
    obtain ⟨rfl, hc, hs⟩ := tab_cells xs 0 F hel
    refine (del_p g cap i j xs t arr w hg h1 h2 h3 hij hj (fun k v hk => by have := hc k v hk; rwa [Nat.zero_mul, Nat.zero_add] at this)).mono ?_
    rintro en w' ⟨rfl, rfl⟩
    have hgd : w.drew.heap[g]? = some (.cells arr t (0, 0)) := hg
    obtain ⟨a1, e1, e2, e3, e4, e5, e6, e7, e8, e9⟩ := setCells_arr (tbC (xs.drop j)) w.drew g (0 + i * 2) arr hgd (by rw [tbC_len, List.length_drop]; omega)
    rw [zc_list]
    obtain ⟨a2, f1, f2, f3, f4, f5, f6, f7, f8, f9⟩ := setCells_arr (tbC (List.replicate (j - i) ⟨.empty, .empty⟩)) _ g ((i + (xs.length - j)) * 2) a1 e1 (by rw [tbC_len, List.length_replicate]; omega)
    refine ⟨a2, [], rfl, ⟨by rw [f7, e7]; rfl, by rw [f8, e8]; rfl, by rw [f9, e9]; rfl, by rw [f6, e6]; exact Nat.le_refl _, fun x hx hm => ?_, by simp, by simp, fun x hx => ?_⟩, f1, by rw [f2, e2], cells_tab _ 0 (fun k v hk => ?_) (fun x hx => ?_)⟩
    · have hne : x ≠ g := by simpa using hm
      rw [f5 x hne, e5 x hne]; rfl
    · have : x = g := by simpa using hx
      subst this
      rw [f6, e6]; exact lt_of_heap hg
    · rw [Nat.zero_mul, Nat.zero_add]
      unfold delL at hk
      rw [tbC_app, tbC_app] at hk
      have l1 : (tbC (xs.take i)).length = i * 2 := by rw [tbC_len, List.length_take]; omega
      have l2 : (tbC (xs.drop j)).length = (xs.length - j) * 2 := by rw [tbC_len, List.length_drop]; omega
      have l3 : (tbC (List.replicate (j - i) ⟨.empty, .empty⟩)).length = (j - i) * 2 := by rw [tbC_len, List.length_replicate]; omega
      rw [List.getElem?_append] at hk
      split at hk
      · rename_i hk1
        rw [List.length_append, l1, l2] at hk1
        rw [f4 k (.inl (by omega))]
        rw [List.getElem?_append] at hk
        split at hk
        · rename_i hk2
          rw [l1] at hk2
          rw [e4 k (.inl (by omega))]
          rw [tbC_take, List.getElem?_take, if_pos hk2] at hk
          have := hc k v hk
          rwa [Nat.zero_mul, Nat.zero_add] at this
        · rename_i hk2
          rw [l1] at hk2 hk
          rw [e3 k (by omega) (by omega), show k - (0 + i * 2) = k - i * 2 by omega]
          exact hk
      · rename_i hk1
        rw [List.length_append, l1, l2] at hk1 hk
        have hlt := (List.getElem?_eq_some_iff.1 hk).1
        rw [l3] at hlt
        rw [f3 k (by omega) (by omega), show k - (i + (xs.length - j)) * 2 = k - (i * 2 + (xs.length - j) * 2) by omega]
        exact hk
    · unfold delL at hx
      simp only [List.mem_append, List.mem_replicate] at hx
      rcases hx with (hx | hx) | ⟨-, rfl⟩
      · exact hs x (List.mem_of_mem_take hx)
      · exact hs x (List.mem_of_mem_drop hx)
      · exact ⟨Nat.zero_le _, Nat.zero_le _⟩
  nil h := by
    have := congrArg List.length h
    rw [List.length_map] at this
    simp at this
    exact absurd this (by intro e; subst e; simp at hj; omega)
section
variable {α : Type} (f : α → D) (z : D) (xs : List α)
end
end Go.Proofs.YtdeafbgnbgihgaaDoor