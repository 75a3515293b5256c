/- merged: several parts in one text. Leans on no more than they do. -/
import Derived.Test.YtiflbcjabifpmaaVMK
import Derived.Test.YtiflbcjabifpmaaTT
import Derived.Test.YtiflbcjabifpmaaTypes
import Derived.Test.YtiflbcjabifpmaaRows
import Derived.Test.YtiflbcjabifpmaaVMTac
import Derived.Shelf.Strings.BuilderK
import Derived.Laws.IdiomCopy
import Derived.Deep.RegionLaw
import Derived.Deep.LoopGhost
import Derived.Lib.SliceRun
import Derived.Shelf.RegionOpenPlain
import Derived.WalkKit
import Derived.Lib.Walk
import Derived.Laws.Bits64b
set_option linter.unusedSimpArgs false
set_option linter.unusedVariables false
namespace Go.Proofs.Ytiflbcjabifpmaa
open Go.RowKit Go.ChangeShapes Go.WideShapes
def RdD (P : Program) (T : TypeId) (n : Nat) (p : D → Prop) : Prop :=
  P.cellsOf T = n ∧ ∀ (H : Type) (enc : TypeId × Value → H) (w : World) (fuel : Nat) (cs : List Value) (x : DataW H × List MemPlace),
    DataW.trod enc P w 0 (fun _ => true) true fuel T cs = some x → ∃ d, p d ∧ d.size = n ∧ repD [] w d cs
theorem inR_wf {k : IntKind} {n : Int} (h : (Lit.int k n).wf = true) : inR k n := by
  have h' : (decide (k.min ≤ n) && decide (n ≤ k.max)) = true := h
  simp only [Bool.and_eq_true, decide_eq_true_eq] at h'
  exact h'
section
variable {P : Program} {T : TypeId}
theorem rd2_imp {n : Nat} {p q : D → Prop} (h : RdD P T n p) (hq : ∀ d, p d → q d) : RdD P T n q :=
  ⟨h.1, fun H enc w fuel cs x ht => by
    obtain ⟨d, h1, h2⟩ := h.2 H enc w fuel cs x ht
    exact ⟨d, hq d h1, h2⟩⟩
theorem rd2_slice {E : TypeId} {n : Nat} {p : D → Prop} (hT : P.underlying T = some (.slice E)) (hc : P.cellsOf T = 1) (hn : 0 < n) (hE : RdD P E n p) : RdD P T 1 fun d => ∃ xs : List D, d = .lst xs ∧ ∀ x ∈ xs, p x :=
  ⟨hc, fun H enc w fuel cs x h => by
    rcases Deep.open_slice hT h with ⟨rfl, _⟩ | ⟨a, len, cap, m, k, Dd, Pl, rfl, _, hl, hm, hmm, _, hel⟩
    · exact ⟨.lst [], ⟨[], rfl, by simp⟩, rfl, none, 0, 0, rfl, Nat.le_refl _, Nat.zero_le _, fun _ => rfl, trivial⟩
    · simp only [if_true] at hmm
      obtain rfl := hmm.symm
      obtain ⟨xs, hxl, hxs⟩ := exists_list (n := len) (p := fun i (x : D) => p x ∧ ∃ b o cs, a = ⟨b, o, none⟩ ∧ b < w.heap.size ∧ CellsAt w b (o + i * n) cs ∧ x.size = n ∧ repD [] w x cs) (fun i hi => by
        obtain ⟨cs', h1, h2⟩ := hel i (by omega)
        obtain ⟨y, hy1, hy2, hy3⟩ := hE.2 _ _ _ _ _ _ h2
        obtain ⟨_, hcl, hat⟩ := World.cells?_some h1
        rw [hE.1] at hcl hat
        have h0 := hat 0 hn
        rw [List.getElem?_eq_getElem (by omega)] at h0
        have hsp := cell_spot h0
        have haa : a = ⟨a.block, a.off, none⟩ := by
          obtain ⟨cs0, h10, h20⟩ := hel 0 (by omega)
          obtain ⟨_, hcl0, hat0⟩ := World.cells?_some h10
          rw [hE.1] at hcl0 hat0
          have h00 := hat0 0 hn
          rw [List.getElem?_eq_getElem (by omega)] at h00
          simpa [Addr.add] using cell_spot h00
        have hcells : CellsAt w a.block (a.off + i * n) cs' := fun j v hj => by
          have hjl : j < cs'.length := (List.getElem?_eq_some_iff.1 hj).1
          have := hat j (by omega)
          rw [hj] at this
          rw [addr_add, haa, addr_add_plain] at this
          simpa [Nat.add_assoc] using this
        refine ⟨y, hy1, a.block, a.off, cs', haa, ?_, hcells, hy2, hy3⟩
        have h1 := hcells 0 cs'[0] (List.getElem?_eq_getElem (by omega))
        have h2 := World.block_lt_of_cell? (w := w) (a := ⟨a.block, a.off + i * n + 0, none⟩) h1
        exact h2)
      refine ⟨.lst xs, ⟨xs, rfl, fun y hy => ?_⟩, rfl, some a, cap, n, by rw [hxl], by omega, hm, (fun h => by cases h), (repDe_get xs 0).2 fun i x hx => ?_⟩
      · obtain ⟨i, hi⟩ := List.getElem?_of_mem hy
        exact (hxs i y hi).1
      · obtain ⟨_, b, o, cs, e, h1, h2, h3, h4⟩ := hxs i x hx
        exact ⟨b, o, cs, by rw [e], by simp, h1, by rw [Nat.zero_add]; exact h2, h3, h4⟩⟩
structure FRd where
  t : TypeId
  n : Nat
  p : D → Prop
end
def ArgRd (P : Program) (T : TypeId) (p : D → Prop) : Prop :=
  ∀ (H : Type) (enc : TypeId × Value → H) (w : World) (base : Nat) (v : Value) (d : DataW H) (pl : List MemPlace), Value.okWide P w .any base T v → DataW.Trod enc P w 0 (fun _ => true) true T v d pl →
    ∃ y, p y ∧ rep1 w [none] [.gone] (.d y) v
section
variable {P : Program} {T : TypeId} {n : Nat} {p : D → Prop}
theorem arg_cell (hR : RdD P T n p) (ha : ∀ y, p y → y.agg = false) (hv : ∀ (w : World) base v, Value.okWide P w .any base T v → v.cells.toList = [v]) : ArgRd P T p := fun H enc w base v d pl hok ht => by
  obtain ⟨fuel, hf⟩ := ht
  obtain ⟨y, h1, _, h2⟩ := hR.2 _ _ _ _ _ _ hf
  refine ⟨y, h1, ?_⟩
  rw [hv w base v hok] at h2
  unfold rep1
  rw [if_neg (by show ¬ (y.agg = true); rw [ha y h1]; simp)]
  exact h2
theorem arg_sl {E : TypeId} (hT : P.underlying T = some (.slice E)) (hR : RdD P T n p) (ha : ∀ y, p y → y.agg = false) : ArgRd P T p := arg_cell hR ha fun w base v h => by
  obtain ⟨a, l, c, rfl⟩ := okWide_slice hT h
  rfl
end
def args2 : List (D → Prop) → List D → Prop
  | [], ds => ds = []
  | p :: ps, ds => ∃ d ds', ds = d :: ds' ∧ p d ∧ args2 ps ds'
def argRds (P : Program) : List TypeId → List (D → Prop) → Prop
  | [], ps => ps = []
  | t :: ts, ps => ∃ p ps', ps = p :: ps' ∧ ArgRd P t p ∧ argRds P ts ps'
theorem law_of_pc {P : Program} {f : FuncId} {ts : List TypeId} {ps : List (D → Prop)} (hR : argRds P ts ps) (hpc : ∀ ds, args2 ps ds → PC P f (toVs ds) (.d (.bool true)) []) : LawCalls P f ts := by
  intro H enc W base args ds p hval hA
  have key : ∀ (ts : List TypeId) (ps : List (D → Prop)) (args : List Value) (ds : List (DataW H)) (pl : List MemPlace), argRds P ts ps → (∀ (j : Nat) t v, ts[j]? = some t → args[j]? = some v → Value.okWide P W .any base t v) →
      DataW.TrodAll enc P W 0 (fun _ => true) true ts args ds pl → ∃ ys, args2 ps ys ∧ repT W [none] [.gone] (toVs ys) args := by
    intro ts
    induction ts with
    | nil =>
      intro ps args ds pl hr _ hA
      obtain ⟨rfl, rfl, rfl⟩ := trodAll_nil hA
      cases hr
      exact ⟨[], rfl, rfl⟩
    | cons t ts ih =>
      intro ps args ds pl hr hv hA
      obtain ⟨v, vs, d, ds', p1, q1, rfl, rfl, rfl, h, r⟩ := ChangeShapes.trodAll_cons hA
      obtain ⟨p, ps', rfl, h1, h2⟩ := hr
      obtain ⟨y, y1, y2⟩ := h1 H enc W base v d p1 (hv 0 _ _ rfl rfl) h
      obtain ⟨ys, k1, k2⟩ := ih ps' vs ds' q1 h2 (fun j t v ht hv' => hv (j + 1) t v (by simpa using ht) (by simpa using hv')) r
      exact ⟨y :: ys, ⟨y, ys, rfl, y1, k1⟩, ⟨v, vs, rfl, y2, k2⟩⟩
  obtain ⟨ys, k1, k2⟩ := key ts ps args ds p hR hval hA
  refine ((hpc ys k1).run W [] args (by simp) (by simp) k2).mono ?_
  rintro e w' ⟨cv, M', rfl, hx, _, hr⟩
  exact ⟨by rw [rep_bool.1 hr], hx⟩
abbrev lstD {α : Type} (f : α → D) (xs : List α) : D := .lst (xs.map f)
def TPeak.D (x : TPeak) : D := .st [.int .i64 x.fStart, .int .i64 x.fTop, .int .i64 x.fEnd]
def TCharRange.D (x : TCharRange) : D := .st [.int .i64 x.fFrom, .int .i64 x.fCount, .int .i64 x.fGlyph]
def TSlot.D (x : TSlot) : D := .st [.int .i64 x.fGlyph, .int .i64 x.fX, .int .i64 x.fY, .int .i64 x.fAdvance, .int .i64 x.fFrom, .int .i64 x.fLen]
def TTable.D (x : TTable) : D := .st [.str x.fTag, .str x.fData]
def TAxisPoint.D (x : TAxisPoint) : D := .st [.int .i64 x.fFrom, .int .i64 x.fTo]
def TAxis.D (x : TAxis) : D := .st [.str x.fName, .int .i64 x.fMin, .int .i64 x.fDefault, .int .i64 x.fMax, .lst (x.fMap.map TAxisPoint.D)]
def TPt.D (x : TPt) : D := .st [.int .i64 x.fX, .int .i64 x.fY]
def TGlyphDelta.D (x : TGlyphDelta) : D := .st [.int .i64 x.fGlyph, .lst (x.fKnots.map (D.int .i64)), .lst (x.fMoves.map TPt.D), .int .i64 x.fAdvance]
def TMaster.D (x : TMaster) : D := .st [.lst (x.fPeaks.map TPeak.D), .lst (x.fDeltas.map TGlyphDelta.D)]
def TVariation.D (x : TVariation) : D := .st [.lst (x.fAxes.map TAxis.D), .lst (x.fMasters.map TMaster.D)]
def TKnot.D (x : TKnot) : D := .st [x.fAt.D, .bool x.fOn]
def TLoop.D (x : TLoop) : D := .st [.lst (x.fKnots.map TKnot.D)]
def TOutline.D (x : TOutline) : D := .st [.lst (x.fLoops.map TLoop.D)]
def TPart.D (x : TPart) : D := .st [.int .i64 x.fGlyph, x.fMove.D]
def TAnchor.D (x : TAnchor) : D := .st [.str x.fName, x.fAt.D]
def TGlyph.D (x : TGlyph) : D := .st [.str x.fName, .int .i64 x.fCode, .int .i64 x.fAdvance, x.fOutline.D, .lst (x.fParts.map TPart.D), .lst (x.fAnchors.map TAnchor.D), .str x.fHints]
def TGlyphSet.D (x : TGlyphSet) : D := .st [.int .i64 x.fUnit, .lst (x.fGlyphs.map TGlyph.D)]
def TRule.D (x : TRule) : D := .st [.lst (x.fBefore.map (lstD (D.int .i64))), .lst (x.fInput.map (lstD (D.int .i64))), .lst (x.fAfter.map (lstD (D.int .i64))), .lst (x.fOutput.map (D.int .i64))]
def TLookup.D (x : TLookup) : D := .st [.str x.fName, .lst (x.fRules.map TRule.D)]
def TKern.D (x : TKern) : D := .st [.lst (x.fLeft.map (D.int .i64)), .lst (x.fRight.map (D.int .i64)), .int .i64 x.fValue]
def TMarkRule.D (x : TMarkRule) : D := .st [.lst (x.fMarks.map (D.int .i64)), .lst (x.fBases.map (D.int .i64)), .str x.fAnchor]
def TJoin.D (x : TJoin) : D := .st [.int .i64 x.fGlyph, .int .i64 x.fKind, .int .i64 x.fInit, .int .i64 x.fMedi, .int .i64 x.fFina]
def TFeatures.D (x : TFeatures) : D := .st [.lst (x.fLookups.map TLookup.D), .lst (x.fKerns.map TKern.D), .lst (x.fMarks.map TMarkRule.D), .lst (x.fJoins.map TJoin.D)]
def TItem.D (x : TItem) : D := .st [.int .i64 x.fGlyph, .int .i64 x.fFrom, .int .i64 x.fLen]
theorem rd2_list {P : Program} {T E : TypeId} {n : Nat} {α : Type} {f : α → D} (hT : P.underlying T = some (.slice E)) (hc : P.cellsOf T = 1) (hn : 0 < n) (hE : RdD P E n fun d => ∃ x, d = f x) : RdD P T 1 fun d => ∃ xs : List α, d = .lst (xs.map f) :=
  rd2_imp (rd2_slice hT hc hn hE) fun d ⟨xs, e, h⟩ => by
    subst e
    have : ∀ xs : List D, (∀ x ∈ xs, ∃ y, x = f y) → ∃ ys : List α, xs = ys.map f := by
      intro xs
      induction xs with
      | nil => intro _; exact ⟨[], rfl⟩
      | cons x xs ih =>
        intro h
        obtain ⟨y, hy⟩ := h x (by simp)
        obtain ⟨ys, hys⟩ := ih fun z hz => h z (by simp [hz])
        exact ⟨y :: ys, by simp [hy, hys]⟩
    obtain ⟨ys, hys⟩ := this xs h
    exact ⟨ys, by rw [hys]⟩
theorem own : ownKnob Try.prog.godebug = none := by kernel_rfl
theorem laidOut : laidOutB Try.prog = true := by kernel_rfl
def inB (n lo hi : Int) : Bool := decide (lo ≤ n) && decide (n ≤ hi)
def divR (n d : Int) : Int := if d ≤ 0 then 0 else if d - n % d ≤ n % d then n / d + 1 else n / d
theorem div_facts {n d : Int} (hd : 0 < d) (h1 : -9223372036854775808 ≤ n) (h2 : n ≤ 9223372036854775807) : 0 ≤ n % d ∧ n % d < d ∧ -9223372036854775808 ≤ n / d ∧ n / d ≤ 9223372036854775807 ∧ (2 ≤ d → -4611686018427387904 ≤ n / d ∧ n / d ≤ 4611686018427387903) := by
  have hm := Int.emod_add_mul_ediv n d
  have a := Int.emod_nonneg n (show d ≠ 0 by omega)
  have b := Int.emod_lt_of_pos n hd
  refine ⟨a, b, ?_, ?_, fun h => ⟨?_, ?_⟩⟩
  · exact (Int.le_ediv_iff_mul_le hd).2 (by have : -9223372036854775808 * d ≤ -9223372036854775808 * 1 := Int.mul_le_mul_of_nonpos_left (by omega) (by omega); omega)
  · have : n / d < 9223372036854775808 := (Int.ediv_lt_iff_lt_mul hd).2 (by have : 9223372036854775808 * 1 ≤ 9223372036854775808 * d := Int.mul_le_mul_of_nonneg_left (by omega) (by omega); omega)
    omega
  · exact (Int.le_ediv_iff_mul_le hd).2 (by have : -4611686018427387904 * d ≤ -4611686018427387904 * 2 := Int.mul_le_mul_of_nonpos_left (by omega) (by omega); omega)
  · have : n / d < 4611686018427387904 := (Int.ediv_lt_iff_lt_mul hd).2 (by have : 4611686018427387904 * 2 ≤ 4611686018427387904 * d := Int.mul_le_mul_of_nonneg_left (by omega) (by omega); omega)
    omega
theorem tdiv_facts {n d : Int} (hd : 0 < d) :
    (n.tmod d < 0 → n.tdiv d - 1 = n / d ∧ n.tmod d + d = n % d ∧ -d < n.tmod d ∧ 2 ≤ d) ∧ (0 ≤ n.tmod d → n.tdiv d = n / d ∧ n.tmod d = n % d) := by
  have e := Int.tmod_add_mul_tdiv n d
  have e' := Int.emod_add_mul_ediv n d
  have a := Int.emod_nonneg n (show d ≠ 0 by omega)
  have b := Int.emod_lt_of_pos n hd
  have c := Int.lt_tmod_of_pos n hd
  have c' := Int.tmod_lt_of_pos n hd
  constructor
  · intro h
    have h1 : d * (n.tdiv d - 1) + (n.tmod d + d) = n := by rw [Int.mul_sub]; omega
    have h2 : n / d = n.tdiv d - 1 := by
      have := Int.ediv_emod_unique hd (a := n) (r := n.tmod d + d) (q := n.tdiv d - 1)
      exact (this.2 ⟨by rw [Int.add_comm]; exact h1, by omega, by omega⟩).1
    have h3 : n % d = n.tmod d + d := by
      have := Int.ediv_emod_unique hd (a := n) (r := n.tmod d + d) (q := n.tdiv d - 1)
      exact (this.2 ⟨by rw [Int.add_comm]; exact h1, by omega, by omega⟩).2
    exact ⟨h2.symm, h3.symm, c, by omega⟩
  · intro h
    have := Int.ediv_emod_unique hd (a := n) (r := n.tmod d) (q := n.tdiv d)
    have := this.2 ⟨e, h, c'⟩
    exact ⟨this.1.symm, this.2.symm⟩
theorem divR_pos {n d : Int} (hd : 0 < d) : divR n d = if d - n % d ≤ n % d then n / d + 1 else n / d := if_neg (by omega)
theorem drop_at {α : Type} {xs : List α} {k : Nat} {x : α} (hx : xs[k]? = some x) : xs.drop k = x :: xs.drop (k + 1) := by
  obtain ⟨h, rfl⟩ := List.getElem?_eq_some_iff.1 hx
  exact List.drop_eq_getElem_cons h
theorem at_lt' {α : Type} {xs : List α} {k : Nat} (h : k < xs.length) : ∃ x, xs[k]? = some x := ⟨xs[k], by simp [h]⟩
theorem wrap_rem {n d : Int} (h0 : 0 < d) (hd : d ≤ 9223372036854775807) (n1 : -9223372036854775808 ≤ n) (n2 : n ≤ 9223372036854775807) : n % d = IntKind.i64.wrap (n - IntKind.i64.wrap (n / d * d)) := by
  have a := Int.emod_nonneg n (show d ≠ 0 by omega)
  have b := Int.emod_lt_of_pos n h0
  have e := Int.emod_add_mul_ediv n d
  rw [Int.mul_comm] at e
  generalize n / d * d = t at *
  generalize n % d = r at *
  obtain rfl : n = r + t := by omega
  simp only [IntKind.wrap_i64]
  omega

section
variable {α : Type}
def fdx (p : α → Bool) : List α → Nat → Int
  | [], _ => -1
  | x :: t, k => if p x = true then (k : Int) else fdx p t (k + 1)
theorem fdx_at {p : α → Bool} {xs : List α} {k : Nat} {x : α} (hx : xs[k]? = some x) : fdx p (xs.drop k) k = if p x = true then (k : Int) else fdx p (xs.drop (k + 1)) (k + 1) := by
  rw [drop_at hx, fdx]
theorem fdx_end {p : α → Bool} {xs : List α} {k : Nat} (hx : xs.length ≤ k) : fdx p (xs.drop k) k = -1 := by
  rw [List.drop_eq_nil_of_le hx, fdx]
theorem fdx_any (p : α → Bool) : ∀ (xs : List α) (k : Nat), decide (0 ≤ fdx p xs k) = xs.any p
  | [], _ => rfl
  | x :: t, k => by
    rw [List.any_cons, fdx]
    by_cases h : p x = true
    · rw [if_pos h, h]; simp
    · rw [if_neg h, fdx_any p t (k + 1)]; simp [h]
end

open Go.RowKit Go.Shelf
section
variable {P : Program} {ρ : Ren}
theorem setCell_heap0 {w : World} {g : Nat} {cs : Array Value} {T : TypeId} (h : w.heap[g]? = some (.cells cs T (0, 0))) (j : Nat) (v : Value) : (w.setCell ⟨g, j, none⟩ v).heap[g]? = some (.cells (cs.setIfInBounds j v) T (0, 0)) := by
  rw [setCell_eq_setRow w g j cs T (0, 0) v h]
  exact setRow_heap w g cs _ T _ h
theorem setCell_other0 {w : World} {g k : Nat} (hk : k ≠ g) (j : Nat) (v : Value) : (w.setCell ⟨g, j, none⟩ v).heap[k]? = w.heap[k]? := by
  simp [World.setCell, Array.getElem?_modify, Ne.symm hk]
theorem setCell_size0 {w : World} {g : Nat} (j : Nat) (v : Value) : (w.setCell ⟨g, j, none⟩ v).heap.size = w.heap.size := by simp [World.setCell]
structure OnlyB (w w' : World) (b : Nat) : Prop where
  os : w'.os = w.os
  tape : w'.tape = w.tape
  output : w'.output = w.output
  size : w'.heap.size = w.heap.size
  ch : ∀ x, x ≠ b → w'.heap[x]? = w.heap[x]?
end
structure BC (P : Program) (f : FuncId) (T E : TypeId) (bs : List UInt8) (rest : List V) (v : V) (bs' : List UInt8) : Prop where
  fn : ∃ fn, P.funcs[f]? = some fn ∧ (fn.name == "runtime.NumGoroutine") = false ∧ fn.body.isNone = false
  run : ∀ (w : World) (g : Nat) (F : List Nat) (args : List Value), repT w [none] [.gone] rest args → bldR w g F T E bs → g ∉ F →
    Calls P f (.pointer (some ⟨g, 0, none⟩) :: args).toArray w fun en w' => ∃ cv F', en = .returned cv ∧ (∀ M h, rep w' M h v cv) ∧ bldR w' g F' T E bs' ∧ Kept w w' (g :: F) (g :: F')
theorem BC.call {P : Program} {f : FuncId} {T E : TypeId} {bs bs' : List UInt8} {rest : List V} {v : V} (bc : BC P f T E bs rest v bs') {b : Nat} {e : Env} {h : List Blk} {K : V → Env → List Blk → Prop}
    (hb : h[b]? = some (.bld T E bs)) (hb0 : Nat.ble 1 b = true) (hr : plains rest = true) (H : K v e (h.set b (.bld T E bs'))) : CallM P f (.pB b [] 0 :: rest) e h K where
  fn := bc.fn
  run B X N M a w args R hargs := by
    obtain ⟨c0, args, rfl, h1, h2⟩ := hargs
    have h2' := plains_rep (w' := w) (M' := [none]) (h' := [.gone]) rest args hr h2
    have hb1 : 1 ≤ b := Nat.le_of_ble_eq_true hb0
    obtain ⟨g, F, m1, rfl⟩ := rep_pB.1 (rep_of_rep1 h1)
    have hbr : bldR w g F T E bs := R.inv.blk b _ _ hb m1
    have nd : (g :: F).Nodup := mO_nodup R.inv m1
    refine (bc.run w g F args h2' hbr (List.nodup_cons.1 nd).1).mono ?_
    rintro en w' ⟨cv, F', rfl, q1, q5, q2⟩
    have hxB : Ext B w' := by
      have hlo := R.inv.lo b _ _ hb m1 rfl
      refine Below.trans R.ext ⟨q2.os, q2.tape, q2.output, q2.size, fun k hk => q2.ch k (Nat.lt_of_lt_of_le hk R.base) (fun hm => ?_)⟩
      have := hlo k hm
      omega
    have q5' := q5
    obtain ⟨p, vv, hbk, _, hrow⟩ := q5'
    have hbk0 := hbr
    obtain ⟨p0, vv0, hbk0, _, _⟩ := hbk0
    obtain ⟨M', R', _, _⟩ := R.reset (w' := w') hxB m1 (by omega) hb (.inl rfl) [] [] (by simp) (by simp) (by simp) (by simp) (m' := some (g, F')) q2.nd
      (fun x hx => (q2.sub x hx).imp id (fun q => .inr q)) q2.hi q2.size (fun x hx hxm => q2.ch x hx hxm) (k' := .bld T E bs') rfl
      (fun _ g1 F1 e1 => by
        cases e1
        refine ⟨⟨F', rfl⟩, ?_, fun arr1 t1 hg1 => ?_⟩
        · simp only [nOf, hb, List.getElem?_set_self (List.getElem?_eq_some_iff.1 hb).1]
        · rw [hbk0] at hg1
          cases hg1
          exact ⟨_, hbk, rfl⟩)
      (fun M' h' _ => q5)
    exact ⟨v, cv, e, _, M', rfl, H, R', q1 _ _⟩
section
variable {P : Program} {ρ : Ren}
end
def srcD (code : List D) (pl sd : Int) : D := .st [.lst code, .int .i64 pl, .int .u64 sd]
def srcR (cc : Value) (pl sd : Int) : D := .st [.raw cc, .int .i64 pl, .int .u64 sd]
def stOK (pl sd : Int) : Prop := 0 ≤ pl ∧ pl ≤ 4611686018427387904 ∧ 0 ≤ sd ∧ sd ≤ 18446744073709551615
theorem stOK_in {pl sd : Int} (h : stOK pl sd) : inR .i64 pl ∧ inR .u64 sd := by
  obtain ⟨h1, h2, h3, h4⟩ := h
  have e1 : IntKind.i64.min = -9223372036854775808 := rfl
  have e2 : IntKind.i64.max = 9223372036854775807 := rfl
  have e3 : IntKind.u64.min = 0 := rfl
  have e4 : IntKind.u64.max = 18446744073709551615 := rfl
  unfold inR
  omega
structure PEs (P : Program) (f : FuncId) (code : List D) (c : Int) (rest : List V) (Q : V → Prop) : Prop where
  fn : ∃ fn, P.funcs[f]? = some fn ∧ (fn.name == "runtime.NumGoroutine") = false ∧ fn.body.isNone = false
  run : ∀ (pl sd : Int) (w : World) (g : Nat) (t : TypeId) (cc : Value) (args : List Value), stOK pl sd → pl + c ≤ 4611686018427387904 → w.heap[g]? = some (.cells #[cc, .int .i64 pl, .int .u64 sd] t (0, 0)) → repD [g] w (.lst code) [cc] → repT w [none] [.gone] rest args →
    Calls P f (.pointer (some ⟨g, 0, none⟩) :: args).toArray w fun en w' => ∃ v cv pl' sd', Q v ∧ pl ≤ pl' ∧ pl' ≤ pl + c ∧ stOK pl' sd' ∧ en = .returned cv ∧ (∀ M h, rep w' M h v cv) ∧ w'.heap[g]? = some (.cells #[cc, .int .i64 pl', .int .u64 sd'] t (0, 0)) ∧ Kept w w' [g] [g]
theorem srcD_rep {O : List Nat} {w : World} {code : List D} {pl sd : Int} {cs : List Value} : repD O w (srcD code pl sd) cs ↔ ∃ cc, cs = [cc, .int .i64 pl, .int .u64 sd] ∧ repD O w (.lst code) [cc] ∧ inR .i64 pl ∧ inR .u64 sd := by
  constructor
  · intro H
    have H' : repDs O w [.lst code, .int .i64 pl, .int .u64 sd] cs := H
    obtain ⟨c1, c2, rfl, h1, c3, c4, rfl, ⟨rfl, h2⟩, c5, c6, rfl, ⟨rfl, h3⟩, rfl⟩ := H'
    have h1' := h1
    obtain ⟨a, cap, n, rfl, _⟩ := h1'
    exact ⟨_, rfl, h1, h2, h3⟩
  · rintro ⟨cc, rfl, h1, h2, h3⟩
    exact ⟨[cc], [.int .i64 pl, .int .u64 sd], rfl, h1, [.int .i64 pl], [.int .u64 sd], rfl, ⟨rfl, h2⟩, [.int .u64 sd], [], rfl, ⟨rfl, h3⟩, rfl⟩
theorem srcR_rep {O : List Nat} {w : World} {cc : Value} {pl sd : Int} {cs : List Value} : repD O w (srcR cc pl sd) cs ↔ cs = [cc, .int .i64 pl, .int .u64 sd] ∧ cc.oneCell' = true ∧ inR .i64 pl ∧ inR .u64 sd := by
  constructor
  · intro H
    have H' : repDs O w [.raw cc, .int .i64 pl, .int .u64 sd] cs := H
    obtain ⟨c1, c2, rfl, ⟨rfl, h1⟩, c3, c4, rfl, ⟨rfl, h2⟩, c5, c6, rfl, ⟨rfl, h3⟩, rfl⟩ := H'
    exact ⟨rfl, h1, h2, h3⟩
  · rintro ⟨rfl, h1, h2, h3⟩
    exact ⟨[cc], [.int .i64 pl, .int .u64 sd], rfl, ⟨rfl, h1⟩, [.int .i64 pl], [.int .u64 sd], rfl, ⟨rfl, h2⟩, [.int .u64 sd], [], rfl, ⟨rfl, h3⟩, rfl⟩
structure SrcB (code : List D) (h : List Blk) (D0 : Int → Int → D) : Prop where
  out : ∀ {B : Nat} {w : World} {M : MM}, MInv B w M h → ∀ {pl sd : Int} {cs : List Value}, repD M.O w (D0 pl sd) cs → ∃ cc, cs = [cc, .int .i64 pl, .int .u64 sd] ∧ repD M.O w (.lst code) [cc] ∧
    ∀ (O : List Nat) (w' : World) (pl' sd' : Int), (∀ y, y ∉ M.O → y < w.heap.size → y ∉ O ∧ w'.heap[y]? = w.heap[y]?) → stOK pl' sd' → repD O w' (D0 pl' sd') [cc, .int .i64 pl', .int .u64 sd']
theorem SrcB.d {code : List D} {h : List Blk} : SrcB code h (srcD code) where
  out {B w M} hI {pl sd cs} H := by
    obtain ⟨cc, rfl, h1, h2, h3⟩ := srcD_rep.1 H
    refine ⟨cc, rfl, h1, fun O w' pl' sd' hx hs => srcD_rep.2 ⟨cc, rfl, repD_mv hx _ _ h1, stOK_in hs⟩⟩
theorem SrcB.r {code : List D} {h : List Blk} {cc : Value} {k : Nat} {e0 : Env} {f0 : Nat → Value} (hk : h[k]? = some (.keep e0 f0)) (he : gt e0 0 = .d (.lst code)) (hf : f0 0 = cc) : SrcB code h (srcR cc) where
  out {B w M} hI {pl sd cs} H := by
    obtain ⟨rfl, h1, h2, h3⟩ := srcR_rep.1 H
    obtain ⟨m, hm⟩ := at_lt (xs := M) (k := k) (by rw [hI.len]; exact (List.getElem?_eq_some_iff.1 hk).1)
    have hkeep := hI.blk k _ _ hk hm
    have h4 : rep w M h (gt e0 0) (f0 0) := hkeep 0
    rw [he, hf] at h4
    have h5 : repD M.O w (.lst code) [cc] := by
      have := rep1_of_rep (v := .d (.lst code)) rfl h4
      exact this
    refine ⟨cc, rfl, h5, fun O w' pl' sd' hx hs => srcR_rep.2 ⟨rfl, h1, stOK_in hs⟩⟩
theorem PEs.call {P : Program} {f : FuncId} {code : List D} {c : Int} {rest : List V} {Q : V → Prop} (pe : PEs P f code c rest Q) {pl sd : Int} {D0 : Int → Int → D} {b : Nat} {e : Env} {h : List Blk} {K : V → Env → List Blk → Prop} {v0 : V}
    (hv : ∀ (w : World) (M : MM) (h : List Blk) (cs : List Value), repC w M h v0 cs → repC w M h (.d (D0 pl sd)) cs) (hs : SrcB code h D0) (hb : h[b]? = some (.box v0)) (hb0 : Nat.ble 1 b = true) (hr : plains rest = true) (hst : stOK pl sd) (hpl : pl + c ≤ 4611686018427387904)
    (H : ∀ v pl' sd', Q v → pl ≤ pl' → pl' ≤ pl + c → stOK pl' sd' → K v e (h.set b (.box (.d (D0 pl' sd'))))) : CallM P f (.pB b [] 0 :: rest) e h K where
  fn := pe.fn
  run B X N M a w args R hargs := by
    obtain ⟨c0, args, rfl, h1, h2⟩ := hargs
    have h2' := plains_rep (w' := w) (M' := [none]) (h' := [.gone]) rest args hr h2
    have hb1 : 1 ≤ b := Nat.le_of_ble_eq_true hb0
    obtain ⟨g, F, m1, rfl⟩ := rep_pB.1 (rep_of_rep1 h1)
    obtain ⟨rfl, arr, t, hg, hcs⟩ : F = [] ∧ ∃ arr t, w.heap[g]? = some (.cells arr t (0, 0)) ∧ repC w M h v0 arr.toList := R.inv.blk b _ _ hb m1
    obtain ⟨cc, ha, k1, k2⟩ := hs.out R.inv (hv _ _ _ _ hcs)
    obtain rfl : arr = #[cc, .int .i64 pl, .int .u64 sd] := by
      apply Array.toList_inj.1
      exact ha
    have hgO : g ∈ M.O := mem_O m1 (by simp [mO])
    have kg : repD [g] w (.lst code) [cc] := by
      refine repD_mv (fun y hy _ => ⟨fun q => ?_, rfl⟩) _ _ k1
      have hyg : y = g := by simpa using q
      exact hy (hyg ▸ hgO)
    refine (pe.run pl sd w g t cc args hst hpl hg kg h2').mono ?_
    rintro en w' ⟨v, cv, pl', sd', qv, p1, p2, p3, rfl, q1, q4, q2⟩
    have hxB : Ext B w' := by
      have hlo := R.inv.lo b _ _ hb m1 rfl
      refine Below.trans R.ext ⟨q2.os, q2.tape, q2.output, q2.size, fun k hk => q2.ch k (Nat.lt_of_lt_of_le hk R.base) (fun hm => ?_)⟩
      have := hlo k (by simpa [mO] using hm)
      omega
    obtain ⟨M', R', _, _⟩ := R.reset (w' := w') hxB m1 (by omega) hb (.inl rfl) [] [] (by simp) (by simp) (by simp) (by simp) (m' := some (g, [])) q2.nd
      (fun x hx => .inl hx) q2.hi q2.size (fun x hx hxm => q2.ch x hx hxm) (k' := .box (.d (D0 pl' sd'))) rfl
      (fun _ g1 F1 e1 => by
        cases e1
        refine ⟨⟨[], rfl⟩, ?_, fun arr1 t1 hg1 => ?_⟩
        · simp only [nOf, hb, List.getElem?_set_self (List.getElem?_eq_some_iff.1 hb).1]
        · rw [hg] at hg1
          cases hg1
          exact ⟨_, q4, rfl⟩)
      (fun M' h' hx => ⟨rfl, _, t, q4, k2 _ _ _ _ hx p3⟩)
    exact ⟨v, cv, e, _, M', rfl, H v pl' sd' qv p1 p2 p3, R', q1 _ _⟩
section
variable {P : Program} {f : FuncId} {code : List D} {c : Int} {rest : List V} {Q : V → Prop} {pl sd : Int} {b : Nat} {e : Env} {h : List Blk} {K : V → Env → List Blk → Prop}
theorem cls_ (pe : PEs P f code c rest Q) (hst : stOK pl sd) (hpl : pl + c ≤ 4611686018427387904) {G : V → Int → Int → Prop} (H : ∀ v pl' sd', Q v → pl ≤ pl' → pl' ≤ pl + c → stOK pl' sd' → G v pl' sd') (hb : h[b]? = some (.box (.d (srcD code pl sd))) := by rfl)
    (hb0 : Nat.ble 1 b = true := by rfl) (hr : plains rest = true := by rfl) (hk : ∀ v pl' sd', G v pl' sd' → K v e (h.set b (.box (.d (srcD code pl' sd')))) := by (intro v pl' sd' H; (conv => whnf); exact H)) : CallW P false f (.pB b [] 0 :: rest) e h K :=
  ⟨.inr ⟨rfl, pe.call (fun _ _ _ _ H => H) SrcB.d hb hb0 hr hst hpl (fun v pl' sd' q1 q2 q3 q4 => hk _ _ _ (H v pl' sd' q1 q2 q3 q4))⟩⟩
end
def eQ (tt : TT) (rs : List ResultVar) (c pl : Int) (Q : V → Prop) (cc : Value) (G : Blk) : Post
  | .normal => fun e h => retV tt rs e h fun va => Q va ∧ va.resOK = true ∧ ∃ pl' sd' r, pl ≤ pl' ∧ pl' ≤ pl + c ∧ stOK pl' sd' ∧ h = .gone :: G :: .box (.d (srcR cc pl' sd')) :: r
  | .ret => fun e h => retV tt rs e h fun va => Q va ∧ va.resOK = true ∧ ∃ pl' sd' r, pl ≤ pl' ∧ pl' ≤ pl + c ∧ stOK pl' sd' ∧ h = .gone :: G :: .box (.d (srcR cc pl' sd')) :: r
  | .exit _ => fun _ _ => False
theorem pe_intro {P : Program} {tt : TT} (hT : TOk P tt) (hm : P.follows .mixedOrders = true) {f : FuncId} {fn : Func} {cd : Code} (hf : P.funcs[f]? = some fn) (hb : fn.body = some cd) (hname : (fn.name == "runtime.NumGoroutine") = false)
    (hN : codeB fn.ntmps cd = true) {code : List D} {c : Int} {rest : List V} (hA : Nat.ble (rest.length + 1) fn.ntmps = true) {Q : V → Prop} (hrp : plains rest = true)
    (H : ∀ (k : Nat → Option Obj) (s g : Nat) (t : TypeId) (cc : Value) (pl sd : Int), wfVs rest → stOK pl sd → pl + c ≤ 4611686018427387904 →
      wpC P tt cd (eQ tt fn.results.toList c pl Q cc (.gho k s g 4 t)) (argE 0 (.pB 2 [] 0 :: rest)) [.gone, .gho k s g 4 t, .box (.d (srcR cc pl sd)), .keep [(0, .d (.lst code))] (fun _ => cc)]) : PEs P f code c rest Q where
  fn := ⟨fn, hf, hname, by rw [hb]; rfl⟩
  run := fun pl sd w g t cc args hst hpl hg hcode hargs => by
    have hO : MM.O [none, none, some (g, []), none] = [g] := by simp [MM.O, mO]
    have hglt := lt_of_heap hg
    let fr : Nat → Option Obj := fun b => if b ∈ [g] then none else w.heap[b]?
    have hfr : ∀ b o, fr b = some o → b ∉ [g] ∧ w.heap[b]? = some o := fun b o hc => by
      simp only [fr] at hc
      split at hc
      · cases hc
      · rename_i hm'; exact ⟨hm', hc⟩
    have hlenT : ∀ (vs : List V) (cs : List Value), repT w [none] [.gone] vs cs → cs.length = vs.length := by
      intro vs
      induction vs with
      | nil => intro cs H; cases H; rfl
      | cons v vs ih => intro cs H; obtain ⟨c, cs', rfl, _, h2⟩ := H; simp [ih _ h2]
    have hl := hlenT rest args hargs
    have hA' := Nat.le_of_ble_eq_true hA
    have hcc1 : cc.oneCell' = true := repD_one (.lst code) [cc] hcode cc (by simp)
    have hargs2 : repT w [none, none, some (g, []), none] [.gone, .gho fr w.heap.size g 4 t, .box (.d (srcR cc pl sd)), .keep [(0, .d (.lst code))] (fun _ => cc)] (.pB 2 [] 0 :: rest) (.pointer (some ⟨g, 0, none⟩) :: args) := by
      refine ⟨_, args, rfl, rep1_of_rep rfl (rep_pB.2 ⟨g, [], rfl, rfl⟩), plains_rep rest args hrp hargs⟩
    have R : Rep { w with heap := #[] } [] fn.ntmps [none, none, some (g, []), none] (argE 0 (.pB 2 [] 0 :: rest)) [.gone, .gho fr w.heap.size g 4 t, .box (.d (srcR cc pl sd)), .keep [(0, .d (.lst code))] (fun _ => cc)]
        { tmps := (.pointer (some ⟨g, 0, none⟩) :: args).toArray ++ Array.replicate (fn.ntmps - (Value.pointer (some ⟨g, 0, none⟩) :: args).toArray.size) Go.undef, defers := [] } w := {
      ext := ⟨rfl, rfl, rfl, Nat.zero_le _, fun k hk => by simp at hk⟩
      inv := ⟨rfl, fun b k m hk hm => by
          match b, hk, hm with
          | 0, hk, hm => simp at hk; subst hk; trivial
          | 1, hk, hm =>
            simp at hk hm
            subst hk
            exact ⟨fun b o hc => by rw [hO]; exact hfr b o hc, Nat.le_refl _, [], rfl, .inr ⟨_, hg, rfl⟩⟩
          | 2, hk, hm =>
            simp at hk hm
            subst hk
            subst hm
            exact ⟨rfl, _, t, hg, srcR_rep.2 ⟨rfl, hcc1, stOK_in hst⟩⟩
          | 3, hk, hm =>
            simp at hk hm
            subst hk
            intro k
            cases k with
            | zero =>
              refine rep_of_rep1 ?_
              show repD (MM.O [none, none, some (g, []), none]) w (.lst code) [cc]
              rw [hO]; exact hcode
            | succ k => trivial
          | b + 4, hk, hm => simp at hk, by rw [hO]; simp, fun _ _ _ _ _ _ g' _ => Nat.zero_le _, by
          rw [hO]
          intro x hx
          have : x = g := by simpa using hx
          subst this
          exact hglt⟩
      env := fun k => by
        rw [argE_get, if_pos (Nat.zero_le _), Nat.sub_zero]
        split
        · rename_i v hv
          obtain ⟨cc', q1, q2⟩ := repT_get _ _ k v hargs2 hv
          have hk : k < (Value.pointer (some ⟨g, 0, none⟩) :: args).length := (List.getElem?_eq_some_iff.1 q1).1
          have : ((.pointer (some ⟨g, 0, none⟩) :: args).toArray ++ Array.replicate (fn.ntmps - (Value.pointer (some ⟨g, 0, none⟩) :: args).toArray.size) Go.undef).getD k Go.undef = cc' := by
            rw [Array.getD_eq_getD_getElem?, Array.getElem?_append_left (by simpa using hk)]
            simp only [List.getElem?_toArray, q1, Option.getD_some]
          dsimp only
          rw [this]
          exact rep_of_rep1 q2
        · trivial
      sz := by simp [hl]; omega
      df := rfl
      fr := rfl
      fh := rfl }
    have hwf : wfVs rest := repT_wf _ _ hargs
    refine calls_of_wp hf hb (wp_mono (code_sound hT hm cd _ _ _ _ _ _ hN (H fr w.heap.size g t cc pl sd hwf hst hpl) R) fun x a' w' hx => ?_)
    have fin : ∀ (e : Env) (h : List Blk) (M : MM), retV tt fn.results.toList e h (fun va => Q va ∧ va.resOK = true ∧ ∃ pl' sd' r, pl ≤ pl' ∧ pl' ≤ pl + c ∧ stOK pl' sd' ∧ h = .gone :: .gho fr w.heap.size g 4 t :: .box (.d (srcR cc pl' sd')) :: r) → Rep { w with heap := #[] } [] fn.ntmps M e h a' w' →
        a'.defers = [] ∧ ∃ cv, (results fn a'.tmps).run P w' = .ok cv w' ∧ ∃ v cv' pl' sd', Q v ∧ pl ≤ pl' ∧ pl' ≤ pl + c ∧ stOK pl' sd' ∧ Ending.returned cv = .returned cv' ∧ (∀ M h, rep w' M h v cv') ∧ w'.heap[g]? = some (.cells #[cc, .int .i64 pl', .int .u64 sd'] t (0, 0)) ∧ Kept w w' [g] [g] := by
      intro e h M hr R'
      have post : ∀ {va : V} {cv : Value}, rep w' M h va cv → (Q va ∧ va.resOK = true ∧ ∃ pl' sd' r, pl ≤ pl' ∧ pl' ≤ pl + c ∧ stOK pl' sd' ∧ h = .gone :: .gho fr w.heap.size g 4 t :: .box (.d (srcR cc pl' sd')) :: r) → ∃ v cv' pl' sd', Q v ∧ pl ≤ pl' ∧ pl' ≤ pl + c ∧ stOK pl' sd' ∧ Ending.returned cv = .returned cv' ∧ (∀ M h, rep w' M h v cv') ∧ w'.heap[g]? = some (.cells #[cc, .int .i64 pl', .int .u64 sd'] t (0, 0)) ∧ Kept w w' [g] [g] := by
        rintro va cv hva ⟨hq, hv, pl', sd', r, p1, p2, p3, rfl⟩
        obtain ⟨m1, hm1⟩ := at_lt (xs := M) (k := 1) (by rw [R'.inv.len]; simp)
        obtain ⟨q1, q2, F', q3, q45⟩ : (∀ b o, fr b = some o → b ∉ M.O ∧ w'.heap[b]? = some o) ∧ w.heap.size ≤ w'.heap.size ∧ ∃ F', M[2]? = some (some (g, F')) ∧ (4 = 0 ∨ ∃ arr', w'.heap[g]? = some (.cells arr' t (0, 0)) ∧ arr'.size + 1 = 4) := R'.inv.blk 1 _ _ rfl hm1
        obtain ⟨arr', q4, q5⟩ : ∃ arr', w'.heap[g]? = some (.cells arr' t (0, 0)) ∧ arr'.size + 1 = 4 := by
          rcases q45 with q | q
          · cases q
          · exact q
        obtain ⟨rfl, arr2, t2, z1, z2⟩ : F' = [] ∧ ∃ arr t, w'.heap[g]? = some (.cells arr t (0, 0)) ∧ repD M.O w' (srcR cc pl' sd') arr.toList := R'.inv.blk 2 _ _ rfl q3
        rw [q4] at z1
        cases z1
        obtain ⟨z3, _⟩ := srcR_rep.1 z2
        obtain rfl : arr' = #[cc, .int .i64 pl', .int .u64 sd'] := Array.toList_inj.1 z3
        have back : ∀ x, x < w.heap.size → x ∉ [g] → x ∉ M.O ∧ w'.heap[x]? = w.heap[x]? := fun x hx hxm => by
          have e1 : fr x = w.heap[x]? := by simp only [fr]; rw [if_neg hxm]
          have e2 : w.heap[x]? = some w.heap[x] := Array.getElem?_eq_getElem hx
          obtain ⟨u1, u2⟩ := q1 x _ (e1.trans e2)
          exact ⟨u1, by rw [u2, e2]⟩
        exact ⟨va, cv, pl', sd', hq, p1, p2, p3, rfl, fun M h => res_rep hv hva, q4, ⟨R'.ext.os, R'.ext.tape, R'.ext.output, q2, fun x hx hxm => (back x hx hxm).2, by simp, fun x hx => .inl hx, fun x hx => R'.inv.hi x (mem_O q3 hx)⟩⟩
      obtain ⟨vs, cvs, h1, h2, h3, h4⟩ := res_sound hT R' _ _ hr
      refine ⟨R'.df, _, run_results h4, ?_⟩
      match vs, cvs, h2 with
      | [va], [cv], _ =>
        obtain ⟨c', k1, k2⟩ := h3 0 va rfl
        cases k1
        exact post k2 h1
      | [], [], _ => exact post (va := .tup []) (cv := .tuple #[]) ⟨[], rfl, rfl⟩ h1
      | va :: vb :: vs, ca :: cb :: cvs, h2 =>
        exfalso
        dsimp only at h1
        cases hok : okTs (va :: vb :: vs) with
        | false => rw [hok] at h1; exact h1.elim
        | true =>
          rw [hok] at h1
          simp only [cond_true] at h1
          have := h1.2.1
          cases this
    cases x with
    | normal => obtain ⟨e, h, M, k1, k2⟩ := hx; exact fin e h M k1 k2
    | ret => obtain ⟨e, h, M, k1, k2⟩ := hx; exact fin e h M k1 k2
    | exit id => obtain ⟨e, h, M, k1, k2⟩ := hx; exact k1.elim
    | goto l => exact hx.elim
    | panic => exact hx.elim
    | outgrown => exact hx.elim
theorem clr_ {P : Program} {f : FuncId} {code : List D} {c : Int} {rest : List V} {Q : V → Prop} {pl sd : Int} {b : Nat} {e : Env} {h : List Blk} {K : V → Env → List Blk → Prop} {cc : Value} {e0 : Env} {f0 : Nat → Value}
    (pe : PEs P f code c rest Q) (hst : stOK pl sd) (hpl : pl + c ≤ 4611686018427387904) {G : V → Int → Int → Prop} (H : ∀ v pl' sd', Q v → pl ≤ pl' → pl' ≤ pl + c → stOK pl' sd' → G v pl' sd') (hb : h[b]? = some (.box (.d (srcR cc pl sd))) := by rfl)
    (hk3 : h[3]? = some (.keep e0 f0) := by rfl) (he : gt e0 0 = .d (.lst code) := by rfl) (hf : f0 0 = cc := by rfl) (hb0 : Nat.ble 1 b = true := by rfl) (hr : plains rest = true := by rfl)
    (hk : ∀ v pl' sd', G v pl' sd' → K v e (h.set b (.box (.d (srcR cc pl' sd')))) := by (intro v pl' sd' H; (conv => whnf); exact H)) : CallW P false f (.pB b [] 0 :: rest) e h K :=
  ⟨.inr ⟨rfl, pe.call (fun _ _ _ _ H => H) (SrcB.r hk3 he hf) hb hb0 hr hst hpl (fun v pl' sd' q1 q2 q3 q4 => hk _ _ _ (H v pl' sd' q1 q2 q3 q4))⟩⟩
set_option maxHeartbeats 4000000 in
set_option maxRecDepth 1000000 in
theorem next_p (n g cap : Nat) (pl sd : Int) (t : TypeId) (a : Option Addr) (w : World) (hg : w.heap[g]? = some (.cells #[.slice a n cap, .int .i64 pl, .int .u64 sd] t (0, 0))) (hpl0 : 0 ≤ pl) (hpl : pl < 4611686018427387904) (hsd0 : 0 ≤ sd) (hsd : sd ≤ 18446744073709551615)
   (b o : Nat) (c : Nat) (hcc : c < 256) (hk : pl < n → a = some ⟨b, o, none⟩ ∧ w.cell? ⟨b, o + pl.toNat, none⟩ = some (.int .u8 c)) :
  Calls Try.prog 22 #[.pointer (some ⟨g, 0, none⟩)] w (fun e w' => ∃ v sd' : Int, e = .returned (.int .i64 v) ∧ 0 ≤ v ∧ v < 256 ∧ 0 ≤ sd' ∧ sd' ≤ 18446744073709551615 ∧ w'.heap = ((w.setCell ⟨g, 1, none⟩ (.int .i64 (pl + 1))).setCell ⟨g, 2, none⟩ (.int .u64 sd')).heap ∧ w'.os = w.os ∧ w'.tape = w.tape ∧ w'.output = w.output) := by
  have hc0 : w.cell? ⟨g, 0, none⟩ = some (.slice a n cap) := by simp [World.cell?, hg]
  have hc1 : w.cell? ⟨g, 1, none⟩ = some (.int .i64 pl) := by simp [World.cell?, hg]
  have hc2 : w.cell? ⟨g, 2, none⟩ = some (.int .u64 sd) := by simp [World.cell?, hg]
  have hf1 : w.frozen? ⟨g, 1, none⟩ = false := by simp [World.frozen?, hg]
  have hw1 : IntKind.i64.wrap (pl + 1) = pl + 1 := by rw [IntKind.wrap_i64]; omega
  have mixed : Try.prog.follows .mixedOrders = true := by kernel_rfl
  have st1 := setCell_heap0 hg 1 (.int .i64 (pl + 1))
  have hd0 : (w.setCell ⟨g, 1, none⟩ (.int .i64 (pl + 1))).cell? ⟨g, 0, none⟩ = some (.slice a n cap) := by simp only [World.cell?, st1]; rfl
  have hd1 : (w.setCell ⟨g, 1, none⟩ (.int .i64 (pl + 1))).cell? ⟨g, 1, none⟩ = some (.int .i64 (pl + 1)) := by simp only [World.cell?, st1]; rfl
  have hd2 : (w.setCell ⟨g, 1, none⟩ (.int .i64 (pl + 1))).cell? ⟨g, 2, none⟩ = some (.int .u64 sd) := by simp only [World.cell?, st1]; rfl
  have he2 : (w.setCell ⟨g, 1, none⟩ (.int .i64 (pl + 1))).frozen? ⟨g, 2, none⟩ = false := by simp only [World.frozen?, st1]; rfl
  have hk0 : ∀ s, ((w.setCell ⟨g, 1, none⟩ (.int .i64 (pl + 1))).setCell ⟨g, 2, none⟩ (.int .u64 s)).cell? ⟨g, 0, none⟩ = some (.slice a n cap) := fun s => by simp only [World.cell?, setCell_heap0 st1]; rfl
  have hk1 : ∀ s, ((w.setCell ⟨g, 1, none⟩ (.int .i64 (pl + 1))).setCell ⟨g, 2, none⟩ (.int .u64 s)).cell? ⟨g, 1, none⟩ = some (.int .i64 (pl + 1)) := fun s => by simp only [World.cell?, setCell_heap0 st1]; rfl
  have hk2 : ∀ s, ((w.setCell ⟨g, 1, none⟩ (.int .i64 (pl + 1))).setCell ⟨g, 2, none⟩ (.int .u64 s)).cell? ⟨g, 2, none⟩ = some (.int .u64 s) := fun s => by simp only [World.cell?, setCell_heap0 st1]; rfl
  have hwr : ∀ x, 0 ≤ IntKind.u64.wrap x ∧ IntKind.u64.wrap x ≤ 18446744073709551615 := fun x => by rw [IntKind.wrap_u64]; omega
  have hand : ∀ x : Int, 0 ≤ x → x < 18446744073709551616 → 0 ≤ wrap64 (bits .and .u64 x 255) ∧ wrap64 (bits .and .u64 x 255) < 256 := fun x h1 h2 => by
    have e := bits_and_u64_nat x.toNat 255 (by omega) (by omega)
    rw [show ((x.toNat : Nat) : Int) = x by omega, show ((255 : Nat) : Int) = 255 from rfl, Nat.and_two_pow_sub_one_eq_mod x.toNat 8] at e
    rw [e]
    unfold wrap64
    omega
  by_cases hlt : pl < n
  · obtain ⟨rfl, hcb⟩ := hk hlt
    have hle : pl + 1 ≤ n := by omega
    have hs := hwr (IntKind.u64.wrap (IntKind.u64.wrap (sd * 6364136223846793005) + ↑c) + 1442695040888963407)
    have q0 := hk0 (IntKind.u64.wrap (IntKind.u64.wrap (IntKind.u64.wrap (sd * 6364136223846793005) + ↑c) + 1442695040888963407))
    have q1 := hk1 (IntKind.u64.wrap (IntKind.u64.wrap (IntKind.u64.wrap (sd * 6364136223846793005) + ↑c) + 1442695040888963407))
    have q2 := hk2 (IntKind.u64.wrap (IntKind.u64.wrap (IntKind.u64.wrap (sd * 6364136223846793005) + ↑c) + 1442695040888963407))
    go_enter Try.func22, Try.ntmps22
    go_wp2
    go_region_o
    go_wp2
    go_region_o
    go_wp2
    go_region_o
    go_wp2
    go_ret
    exact ⟨_, _, rfl, by omega, by omega, hs.1, hs.2, rfl, rfl, rfl, rfl⟩
  · have hle : ¬ pl + 1 ≤ n := by omega
    have hs := hwr (IntKind.u64.wrap (IntKind.u64.wrap (sd * 6364136223846793005)) + 1442695040888963407)
    have q0 := hk0 (IntKind.u64.wrap (IntKind.u64.wrap (IntKind.u64.wrap (sd * 6364136223846793005)) + 1442695040888963407))
    have q1 := hk1 (IntKind.u64.wrap (IntKind.u64.wrap (IntKind.u64.wrap (sd * 6364136223846793005)) + 1442695040888963407))
    have q2 := hk2 (IntKind.u64.wrap (IntKind.u64.wrap (IntKind.u64.wrap (sd * 6364136223846793005)) + 1442695040888963407))
    go_enter Try.func22, Try.ntmps22
    go_wp2
    go_region_o
    go_wp2
    go_region_o
    go_wp2
    go_ret
    have hb := hand (IntKind.u64.wrap (IntKind.u64.wrap (IntKind.u64.wrap (sd * 6364136223846793005)) + 1442695040888963407) / 1099511627776) (by omega) (by omega)
    exact ⟨_, _, rfl, hb.1, hb.2, hs.1, hs.2, rfl, rfl, rfl, rfl⟩
theorem next_e (code : List UInt8) : PEs Try.prog 22 (code.map bD) 1 [] (fun v => ∃ x, v = .d (.int .i64 x) ∧ 0 ≤ x ∧ x < 256) where
  fn := ⟨_, Try.func22, rfl, rfl⟩
  run pl sd w g t cc args hst hpl hg hcc hargs := by
    cases (show args = [] from hargs)
    obtain ⟨a, cap, n, hcv, hc1, hc2, hc3, hel⟩ := hcc
    obtain rfl : cc = .slice a (code.map bD).length cap := by simpa using hcv
    obtain ⟨s1, s2, s3, s4⟩ := hst
    obtain ⟨b, o, c, hc, hk⟩ : ∃ b o c, c < 256 ∧ (pl < ((code.map bD).length : Nat) → a = some ⟨b, o, none⟩ ∧ w.cell? ⟨b, o + pl.toNat, none⟩ = some (.int .u8 (c : Nat))) := by
      by_cases hlt : pl < ((code.map bD).length : Nat)
      · obtain ⟨x, hx⟩ := at_lt' (xs := code) (k := pl.toNat) (by rw [List.length_map] at hlt; omega)
        obtain ⟨b, o, ces, q1, q2, q3, q4, q5, q6⟩ := (repDe_get _ 0).1 hel pl.toNat (bD x) (by rw [List.getElem?_map, hx]; rfl)
        obtain ⟨rfl, q7⟩ := q6
        have hn : n = 1 := q5.symm
        subst hn
        have := q4 0 _ rfl
        rw [Nat.zero_add, Nat.mul_one, Nat.add_zero] at this
        exact ⟨b, o, x.toNat, x.toNat_lt, fun _ => ⟨q1, this⟩⟩
      · exact ⟨0, 0, 0, by omega, fun h => absurd h hlt⟩
    refine (next_p _ g cap pl sd t a w hg s1 (by omega) s3 s4 b o c hc hk).mono ?_
    rintro en w' ⟨v, sd', rfl, v1, v2, d1, d2, hh, h1, h2, h3⟩
    have st1 := setCell_heap0 hg 1 (.int .i64 (pl + 1))
    have st2 := setCell_heap0 st1 2 (.int .u64 sd')
    have ho : ∀ x, x ≠ g → w'.heap[x]? = w.heap[x]? := fun x hx => by rw [hh, setCell_other0 hx, setCell_other0 hx]
    have hsz : w'.heap.size = w.heap.size := by rw [hh, setCell_size0, setCell_size0]
    refine ⟨_, _, pl + 1, sd', ⟨v, rfl, v1, v2⟩, by omega, by omega, ⟨by omega, by omega, d1, d2⟩, rfl, fun M h => ?_, ?_, ⟨h1, h2, h3, by omega, fun x _ hx => ho x (by simpa using hx), by simp, fun x hx => .inl hx, fun x hx => ?_⟩⟩
    · refine rep_of_rep1 (v := .d (.int .i64 v)) ?_
      exact ⟨rfl, by have e1 : IntKind.i64.min = -9223372036854775808 := rfl; have e2 : IntKind.i64.max = 9223372036854775807 := rfl; unfold inR; omega⟩
    · rw [hh, st2]; rfl
    · have : x = g := by simpa using hx
      subst this
      rw [hsz]; exact lt_of_heap hg
def PkQ (n : Int) (v : V) : Prop := ∃ x, v = .d (.int .i64 x) ∧ 0 ≤ x ∧ (x < n ∨ x = 0)
theorem pick_e (code : List UInt8) (n : Int) : PEs Try.prog 11 (code.map bD) 2 [.d (.int .i64 n)] (PkQ n) := by
  refine pe_intro ttOk (by kernel_rfl) Try.func11 rfl (by kernel_rfl) (by kernel_rfl) (by rfl) (by rfl) (fun k s g t cc pl sd hw hst hpl => ?_)
  have c0 := next_e code
  (conv => whnf)
  (repeat (refine stg_ ?_))
  (refine br_ (fun h1 => ?_) (fun h1 => ?_))
  · (repeat (refine stg_ ?_))
    (refine ⟨⟨_, rfl, by omega, by omega⟩, rfl, _, _, _, ?_, ?_, ?_, rfl⟩ <;> first | omega | assumption)
  · (repeat (refine stg_ ?_))
    (refine clr_ c0 (by assumption) (by omega) ?_; rintro _ pl1 sd1 ⟨x, rfl, hx1, hx2⟩ hl1 hl2 hs1; (conv => whnf))
    (repeat (refine stg_ ?_))
    (refine br_ (fun h2 => ?_) (fun h2 => ?_))
    · (repeat (refine stg_ ?_))
      (refine clr_ c0 (by assumption) (by omega) ?_; rintro _ pl2 sd2 ⟨y, rfl, hy1, hy2⟩ hl3 hl4 hs2; (conv => whnf))
      (repeat (refine stg_ ?_))
      have ht : (x * 256 + y).tmod n = (x * 256 + y) % n := Int.tmod_eq_emod_of_nonneg (by omega)
      have hm := Int.emod_nonneg (x * 256 + y) (b := n) (by omega)
      have hm2 := Int.emod_lt_of_pos (x * 256 + y) (b := n) (by omega)
      (refine ⟨⟨_, rfl, by omega, by omega⟩, rfl, _, _, _, ?_, ?_, ?_, rfl⟩ <;> first | omega | assumption)
    · (repeat (refine stg_ ?_))
      have ht : x.tmod n = x % n := Int.tmod_eq_emod_of_nonneg (by omega)
      have hm := Int.emod_nonneg x (b := n) (by omega)
      have hm2 := Int.emod_lt_of_pos x (b := n) (by omega)
      (refine ⟨⟨_, rfl, by omega, by omega⟩, rfl, _, _, _, ?_, ?_, ?_, rfl⟩ <;> first | omega | assumption)
theorem one_e (code : List UInt8) (n : Int) : PEs Try.prog 19 (code.map bD) 2 [.d (.int .i64 n)] (fun v => ∃ b, v = .d (.bool b)) := by
  refine pe_intro ttOk (by kernel_rfl) Try.func19 rfl (by kernel_rfl) (by kernel_rfl) (by rfl) (by rfl) (fun k s g t cc pl sd hw hst hpl => ?_)
  have c0 := pick_e code n
  (conv => whnf)
  (repeat (refine stg_ ?_))
  (refine clr_ c0 (by assumption) (by omega) ?_; rintro _ pl1 sd1 ⟨x, rfl, hx1, hx2⟩ hl1 hl2 hs1; (conv => whnf))
  (repeat (refine stg_ ?_))
  (refine ⟨⟨_, rfl⟩, rfl, _, _, _, ?_, ?_, ?_, rfl⟩ <;> first | omega | assumption)
theorem Weak.box {e : Env} {h : List Blk} (b : Nat) {v v' : V} (hb : h[b]? = some (.box v)) (hb0 : Nat.ble 1 b = true) (hv : ∀ (w : World) (M : MM) (h : List Blk) (cs : List Value), repC w M h v cs → repC w M h v' cs) : Weak e h e (h.set b (.box v')) := fun B X N M a w R => by
  have hlt : b < h.length := (List.getElem?_eq_some_iff.1 hb).1
  have hnof : ∀ c, nOf (h.set b (.box v')) c = nOf h c := fun c => by
    unfold nOf
    by_cases hc : b = c
    · subst hc
      rw [List.getElem?_set_self hlt, hb]
    · rw [List.getElem?_set_ne hc]
  have mv' : Mv (fun _ => True) w M h w M (h.set b (.box v')) := {
    ext := fun b hb _ => ⟨hb, rfl⟩
    ids := fun b g F _ hb => ⟨F, hb⟩
    row := fun b g F arr t _ _ hg => ⟨arr, hg, rfl⟩
    nof := fun b g F _ _ => hnof b
    sz := Nat.le_refl _ }
  have hget : ∀ (c : Nat) (k : Blk), (h.set b (.box v'))[c]? = some k → (c = b ∧ k = .box v') ∨ h[c]? = some k := fun c k hk => by
    by_cases hc : b = c
    · subst hc
      rw [List.getElem?_set_self hlt] at hk
      cases hk
      exact .inl ⟨rfl, rfl⟩
    · rw [List.getElem?_set_ne hc] at hk
      exact .inr hk
  have hI' : MInv B.heap.size w M (h.set b (.box v')) := {
    len := by simp [R.inv.len]
    blk := fun c k m hk hm => by
      rcases hget c k hk with ⟨rfl, rfl⟩ | hk3
      · have h1 := R.inv.blk c _ m hb hm
        cases m with
        | none => exact h1
        | some gF =>
          obtain ⟨g, F⟩ := gF
          obtain ⟨h2, arr, t, h3, h4⟩ := h1
          exact ⟨h2, arr, t, h3, repC_mv mv' _ _ (V.inS_all _) (hv _ _ _ _ h4)⟩
      · exact BRep_mv mv' (by cases k <;> first | trivial | exact V.inS_all _ | exact inSE_all _) (fun _ _ => rfl) (R.inv.blk c k m hk3 hm)
    nd := R.inv.nd
    lo := fun c k m hk hm hl => by
      rcases hget c k hk with ⟨rfl, rfl⟩ | hk3
      · exact R.inv.lo c _ m hb hm rfl
      · exact R.inv.lo c k m hk3 hm hl
    hi := R.inv.hi }
  refine ⟨M, R.ext, hI', fun k => rep_mv mv' _ _ (V.inS_all _) (R.env k), R.sz, R.df, R.fr, ?_⟩
  rw [List.getElem?_set_ne (by intro e0; subst e0; cases hb0)]
  exact R.fh

theorem Weak.pushE {e : Env} {h : List Blk} (n : Nat) (dp : Bool) : Weak e h e (h ++ [.arr n [] dp]) := by
  intro B X N M a w R
  have hO : MM.O [none] = [] := rfl
  have mv : Mv (fun _ => True) w M h w (M ++ [none]) (h ++ [.arr n [] dp]) := push_mv R.inv.len (Ext.refl w) R.inv.hi (by rw [hO]; simp)
  exact ⟨_, R.step R.ext (R.inv.push R.base (Ext.refl w) (Mn := [none]) (hn := [.arr n [] dp]) rfl (by rw [hO]; simp) (by rw [hO]; simp) (by rw [hO]; simp) (by
    intro b k m hk hm
    cases b with
    | zero => simp at hk hm; subst hk; subst hm; exact rfl
    | succ b => simp at hk)) mv (fr_push R.fr _) (fr_push R.fh _)⟩
theorem repC_nilE {w : World} {M : MM} {h : List Blk} (b : Nat) {cs : List Value} (H : repC w M h .nils cs) : repC w M h (.own b 0 0) cs := by
  have : cs = [.slice none 0 0] := H
  subst this
  exact ⟨_, rfl, none, 0, rfl, Nat.le_refl _, Nat.zero_le _, fun _ => rfl, .inl rfl⟩
theorem repCs_lastE {w : World} {M : MM} {h : List Blk} (b : Nat) : ∀ (vs : List V) (cs : List Value), repCs w M h (vs ++ [.nils]) cs → repCs w M h (vs ++ [.own b 0 0]) cs
  | [], cs, H => by
    obtain ⟨c1, c2, e, h1, h2⟩ := H
    exact ⟨c1, c2, e, repC_nilE b h1, h2⟩
  | v :: vs, cs, H => by
    obtain ⟨c1, c2, e, h1, h2⟩ := H
    exact ⟨c1, c2, e, h1, repCs_lastE b vs c2 h2⟩
theorem Weak.adoptL {e : Env} {h : List Blk} (b : Nat) (vs : List V) (hb : h[b]? = some (.box (.st (vs ++ [.nils])))) (hb0 : Nat.ble 1 b = true) (n : Nat) (dp : Bool) : Weak e h e ((h ++ [Blk.arr n [] dp]).set b (.box (.st (vs ++ [.own h.length 0 0])))) :=
  Weak.trans (Weak.pushE n dp) (Weak.box b (v := .st (vs ++ [V.nils])) (v' := .st (vs ++ [V.own h.length 0 0])) (by rw [List.getElem?_append_left (List.getElem?_eq_some_iff.1 hb).1]; exact hb) hb0 (fun w M h' cs H => repCs_lastE _ vs cs H))
theorem repCs_midE {w : World} {M : MM} {h : List Blk} (b : Nat) : ∀ (us vs : List V) (cs : List Value), repCs w M h (us ++ V.nils :: vs) cs → repCs w M h (us ++ V.own b 0 0 :: vs) cs
  | [], vs, cs, H => by
    obtain ⟨c1, c2, e, h1, h2⟩ := H
    exact ⟨c1, c2, e, repC_nilE b h1, h2⟩
  | u :: us, vs, cs, H => by
    obtain ⟨c1, c2, e, h1, h2⟩ := H
    exact ⟨c1, c2, e, h1, repCs_midE b us vs c2 h2⟩
theorem Weak.adoptM {e : Env} {h : List Blk} (b : Nat) (us vs : List V) (hb : h[b]? = some (.box (.st (us ++ V.nils :: vs)))) (hb0 : Nat.ble 1 b = true) (n : Nat) (dp : Bool) : Weak e h e ((h ++ [Blk.arr n [] dp]).set b (.box (.st (us ++ V.own h.length 0 0 :: vs)))) :=
  Weak.trans (Weak.pushE n dp) (Weak.box b (v := .st (us ++ V.nils :: vs)) (v' := .st (us ++ V.own h.length 0 0 :: vs)) (by rw [List.getElem?_append_left (List.getElem?_eq_some_iff.1 hb).1]; exact hb) hb0 (fun w M h' cs H => repCs_midE _ us vs cs H))
structure PX (P : Program) (f : FuncId) (As : List V) (Q : V → List Blk → Prop) : Prop where
  fn : ∃ fn, P.funcs[f]? = some fn ∧ (fn.name == "runtime.NumGoroutine") = false ∧ fn.body.isNone = false
  run : ∀ (w : World) (X : List Nat) (args : List Value), X.Nodup → (∀ b ∈ X, b < w.heap.size) → repT w [mX X] [.gone] As args →
    Calls P f args.toArray w fun e w' => ∃ v bs cv M', Q v bs ∧ e = .returned cv ∧ Ext w w' ∧ MInv w.heap.size w' (mX X :: M') (.gone :: bs) ∧ rep w' (mX X :: M') (.gone :: bs) v cv
theorem PX.of {P : Program} {f : FuncId} {As : List V} {v : V} {bs : List Blk} (pc : PC P f As v bs) {Q : V → List Blk → Prop} (hq : Q v bs) : PX P f As Q :=
  ⟨pc.fn, fun w X args h1 h2 h3 => (pc.run w X args h1 h2 h3).mono fun _ _ ⟨cv, M', k⟩ => ⟨v, bs, cv, M', hq, k⟩⟩
theorem PX.callE {P : Program} {f : FuncId} {As : List V} {Q : V → List Blk → Prop} (px : PX P f As Q) {vs : List V} {e : Env} {h : List Blk} {K : V → Env → List Blk → Prop} (hb : borVs h vs As) (h0 : Nat.ble 1 h.length = true)
    (hf : ∀ v bs, Q v bs → (v.fit (!V.exts vs) && fitBs (!V.exts vs) bs) = true) (hK : ∀ v bs, Q v bs → K (v.shift (h.length - 1)) e (h ++ shiftBs (h.length - 1) bs)) : CallE P f vs e h K := by
  refine ⟨px.fn, fun B X0 N M a w args R hargs => ?_⟩
  have h0 : 1 ≤ h.length := Nat.le_of_ble_eq_true h0
  have ⟨X, hX, hnd, hhi, S⟩ : ∃ X : List Nat, (X = [] ∨ V.exts vs = true ∧ X = M.O) ∧ X.Nodup ∧ (∀ b ∈ X, b < w.heap.size) ∧ Sh (!V.exts vs) X M h := by
    cases he : V.exts vs with
    | true => exact ⟨M.O, .inr ⟨rfl, rfl⟩, R.inv.nd, R.inv.hi, R.inv.len, h0, .inr rfl⟩
    | false => exact ⟨[], .inl rfl, by simp, by simp, R.inv.len, h0, .inl rfl⟩
  refine (px.run w X args hnd hhi (borT_sound R.inv vs args As hargs hX hb)).mono ?_
  rintro en w' ⟨v, bs, cv, M', hq, rfl, hx, hI, hr⟩
  have hf := hf v bs hq
  simp only [Bool.and_eq_true] at hf
  obtain ⟨hf1, hf2⟩ := hf
  have hlen : M'.length = bs.length := by have := hI.len; simpa using this
  have hlo : ∀ g ∈ (MM.O M'), w.heap.size ≤ g := fun g hg => by
    obtain ⟨b, m, hm, hgm⟩ := mem_O_get hg
    obtain ⟨k, hk⟩ := at_lt (xs := bs) (k := b) (by rw [← hlen]; exact (List.getElem?_eq_some_iff.1 hm).1)
    exact hI.lo (b + 1) k m (by simpa using hk) (by simpa using hm) (fit_live (fitBs_get bs b k hf2 hk)) g hgm
  have hnd' : (MM.O M').Nodup := by
    have := hI.nd
    rw [O_cons] at this
    exact (List.nodup_append.1 this).2.1
  have hhi' : ∀ g ∈ (MM.O M'), g < w'.heap.size := fun g hg => hI.hi g (by rw [O_cons]; exact List.mem_append_right _ hg)
  have mv : Mv (fun _ => True) w M h w' (M ++ M') (h ++ shiftBs (h.length - 1) bs) := push_mv R.inv.len hx R.inv.hi hlo
  refine ⟨_, cv, _, M ++ M', rfl, hK v bs hq, hx, R.step (R.ext.trans hx) (R.inv.push R.base hx (by rw [shiftBs_len]; exact hlen) hnd' hlo hhi' ?_) mv (fr_push R.fr _) (fr_push R.fh _), rep_sh S hf1 hr⟩
  intro b k m hk hm
  rw [shiftBs_get] at hk
  obtain ⟨k0, hk0, rfl⟩ := Option.map_eq_some_iff.1 hk
  exact BRep_sh S (fitBs_get bs b k0 hf2 hk0) (hI.blk (b + 1) k0 m (by simpa using hk0) (by simpa using hm))
def xQ (tt : TT) (rs : List ResultVar) (Q : V → List Blk → Prop) : Post
  | .normal => fun e h => retV tt rs e h fun va => ∃ v bs, Q v bs ∧ RetOK h va v bs
  | .ret => fun e h => retV tt rs e h fun va => ∃ v bs, Q v bs ∧ RetOK h va v bs
  | .exit _ => fun _ _ => False
theorem px_intro {P : Program} {tt : TT} (hT : TOk P tt) (hm : P.follows .mixedOrders = true) {f : FuncId} {fn : Func} {c : Code} (hf : P.funcs[f]? = some fn) (hb : fn.body = some c) (hname : (fn.name == "runtime.NumGoroutine") = false)
    (hN : codeB fn.ntmps c = true) {As : List V} (hA : Nat.ble As.length fn.ntmps = true) {Q : V → List Blk → Prop}
    (H : wfVs As → wpC P tt c (xQ tt fn.results.toList Q) (argE 0 As) [.gone]) : PX P f As Q := by
  refine ⟨⟨fn, hf, hname, by rw [hb]; rfl⟩, fun w X args hX1 hX2 hargs => ?_⟩
  have hlen : ∀ (vs : List V) (cs : List Value), repT w [mX X] [.gone] vs cs → cs.length = vs.length := by
    intro vs
    induction vs with
    | nil => intro cs H; cases H; rfl
    | cons v vs ih => intro cs H; obtain ⟨c, cs', rfl, _, h2⟩ := H; simp [ih _ h2]
  have hl := hlen As args hargs
  have hA' := Nat.le_of_ble_eq_true hA
  have hO : MM.O [mX X] = X := by rw [O_one, mO_mX]
  have R : Rep w X fn.ntmps [mX X] (argE 0 As) [.gone] { tmps := args.toArray ++ Array.replicate (fn.ntmps - args.toArray.size) Go.undef, defers := [] } w := {
    ext := Ext.refl w
    inv := ⟨rfl, fun b k m hk hm => by
        cases b with
        | zero => simp at hk; subst hk; trivial
        | succ b => simp at hk, by rw [hO]; exact hX1, fun b k m hk hm hl => by
        cases b with
        | zero => simp at hk; subst hk; cases hl
        | succ b => simp at hk, by rw [hO]; exact hX2⟩
    env := fun k => by
      rw [argE_get, if_pos (Nat.zero_le _), Nat.sub_zero]
      split
      · rename_i v hv
        obtain ⟨cc, k1, k2⟩ := repT_get As args k v hargs hv
        have hk : k < args.length := (List.getElem?_eq_some_iff.1 k1).1
        have : (args.toArray ++ Array.replicate (fn.ntmps - args.toArray.size) Go.undef).getD k Go.undef = cc := by
          rw [Array.getD_eq_getD_getElem?, Array.getElem?_append_left (by simpa using hk)]
          simp [k1]
        dsimp only
        rw [this]
        exact rep_of_rep1 k2
      · trivial
    sz := by simp; omega
    df := rfl
    fr := rfl
    fh := rfl }
  refine calls_of_wp hf hb (wp_mono (code_sound hT hm c _ _ _ _ _ _ hN (H (repT_wf _ _ hargs)) R) fun x a' w' hx => ?_)
  have fin : ∀ (e : Env) (h : List Blk) (M : MM), retV tt fn.results.toList e h (fun va => ∃ v bs, Q v bs ∧ RetOK h va v bs) → Rep w X fn.ntmps M e h a' w' →
      a'.defers = [] ∧ ∃ cv, (results fn a'.tmps).run P w' = .ok cv w' ∧ ∃ v bs cv' M', Q v bs ∧ Ending.returned cv = .returned cv' ∧ Ext w w' ∧ MInv w.heap.size w' (mX X :: M') (.gone :: bs) ∧ rep w' (mX X :: M') (.gone :: bs) v cv' := by
    intro e h M hr R'
    obtain ⟨vs, cvs, h1, h2, h3, h4⟩ := res_sound hT R' _ _ hr
    refine ⟨R'.df, _, run_results h4, ?_⟩
    match vs, cvs, h2 with
    | [va], [cv], _ =>
      obtain ⟨c', k1, k2⟩ := h3 0 va rfl
      cases k1
      obtain ⟨v, bs, hq, h1⟩ := h1
      obtain ⟨M', q1, q2⟩ := ret_sound R' k2 h1
      exact ⟨v, bs, cv, M', hq, rfl, R'.ext, q1, q2⟩
    | [], [], _ =>
      obtain ⟨v, bs, hq, h1⟩ := h1
      obtain ⟨M', q1, q2⟩ := ret_sound R' (va := .tup []) (cv := .tuple #[]) ⟨[], rfl, rfl⟩ h1
      exact ⟨v, bs, _, M', hq, rfl, R'.ext, q1, q2⟩
    | va :: vb :: vs, ca :: cb :: cvs, h2 =>
      dsimp only at h1
      cases hok : okTs (va :: vb :: vs) with
      | false => rw [hok] at h1; exact h1.elim
      | true =>
        rw [hok] at h1
        simp only [cond_true] at h1
        have hall : ∀ (vs : List V) (cs : List Value), vs.length = cs.length → okTs vs = true → (∀ (i : Nat) (v : V), vs[i]? = some v → ∃ c, cs[i]? = some c ∧ rep w' M h v c) → repT w' M h vs cs := by
          intro vs
          induction vs with
          | nil => intro cs hl _ _; cases cs with
            | nil => rfl
            | cons _ _ => simp at hl
          | cons v vs ih =>
            intro cs hl ho hg
            cases cs with
            | nil => simp at hl
            | cons c cs =>
              simp only [okTs, Bool.and_eq_true] at ho
              obtain ⟨c', k1, k2⟩ := hg 0 v rfl
              cases k1
              exact ⟨c, cs, rfl, rep1_of_rep ho.1 k2, ih cs (by simpa using hl) ho.2 fun i u hi => by simpa using hg (i + 1) u (by simpa using hi)⟩
        obtain ⟨v, bs, hq, h1⟩ := h1
        obtain ⟨M', q1, q2⟩ := ret_sound R' (va := .tup (va :: vb :: vs)) (cv := .tuple (ca :: cb :: cvs).toArray) ⟨_, rfl, hall _ _ h2 hok h3⟩ h1
        exact ⟨v, bs, _, M', hq, rfl, R'.ext, q1, q2⟩
  cases x with
  | normal => obtain ⟨e, h, M, k1, k2⟩ := hx; exact fin e h M k1 k2
  | ret => obtain ⟨e, h, M, k1, k2⟩ := hx; exact fin e h M k1 k2
  | exit id => obtain ⟨e, h, M, k1, k2⟩ := hx; exact k1.elim
  | goto l => exact hx.elim
  | panic => exact hx.elim
  | outgrown => exact hx.elim
section
variable {P : Program} {dr : Bool} {f : FuncId} {As vs : List V} {Q : V → List Blk → Prop} {e : Env} {h : List Blk} {K : V → Env → List Blk → Prop}
theorem clx_ (px : PX P f As Q) {G : V → List Blk → Prop} (H : ∀ v bs, Q v bs → (v.fit (!V.exts vs) && fitBs (!V.exts vs) bs) = true ∧ G v bs) (hb : borVs h vs As := by ((repeat' (first | exact trivial | with_reducible rfl | ((conv => whnf); first | done | exact trivial | with_reducible rfl | (exact Or.inr ⟨rfl, rfl, rfl, rfl⟩) | (refine Or.inl ⟨_, rfl, ?_⟩) | (refine ⟨rfl, _, rfl, ?_⟩) | (refine ⟨_, _, rfl, ?_, ?_⟩) | (refine ⟨_, rfl, ?_⟩) | ((refine ⟨?_, ?_⟩); (focus (first | (simp; done) | omega)); (focus ((first | rw [List.drop_zero, List.take_of_length_le (Nat.le_of_eq (List.length_map _))] | rw [List.drop_zero, List.take_of_length_le (by omega)] | rfl); done))) | rfl))); (first | done | fail))) (h0 : Nat.ble 1 h.length = true := by rfl)
    (hk : ∀ v bs, G v bs → K (v.shift (h.length - 1)) e (h ++ shiftBs (h.length - 1) bs) := by (intro v bs H; exact H)) : CallW P dr f vs e h K :=
  ⟨.inl (.inr (px.callE hb h0 (fun v bs q => (H v bs q).1) (fun v bs q => hk v bs (H v bs q).2)))⟩
end
theorem RegD.treeT {P : Program} {tt : TT} {l : List Oper} {K : Env → List Blk → Prop} {e : Env} {h : List Blk} (t : OT) (h1 : treeOK l t = true) (H : treeV P tt l t K e h) : RegD P tt l K e h := ⟨.inr (.inl ⟨t, h1, H⟩)⟩
structure PZ (P : Program) (f : FuncId) (code : List D) (c : Int) (rest : List V) (Q : V → List Blk → Prop) : Prop where
  fn : ∃ fn, P.funcs[f]? = some fn ∧ (fn.name == "runtime.NumGoroutine") = false ∧ fn.body.isNone = false
  run : ∀ (pl sd : Int) (w : World) (g : Nat) (t : TypeId) (cc : Value) (args : List Value), stOK pl sd → pl + c ≤ 4611686018427387904 → w.heap[g]? = some (.cells #[cc, .int .i64 pl, .int .u64 sd] t (0, 0)) → repD [g] w (.lst code) [cc] → repT w [none] [.gone] rest args →
    Calls P f (.pointer (some ⟨g, 0, none⟩) :: args).toArray w fun en w' => ∃ v bs cv M' pl' sd', Q v bs ∧ pl ≤ pl' ∧ pl' ≤ pl + c ∧ stOK pl' sd' ∧ en = .returned cv ∧ MInv 0 w' (none :: M') (.gone :: bs) ∧ rep w' (none :: M') (.gone :: bs) v cv ∧ (∀ x ∈ MM.O M', w.heap.size ≤ x) ∧
      w'.heap[g]? = some (.cells #[cc, .int .i64 pl', .int .u64 sd'] t (0, 0)) ∧ Kept w w' [g] [g]
theorem PZ.call {P : Program} {f : FuncId} {code : List D} {c : Int} {rest : List V} {Q : V → List Blk → Prop} (pz : PZ P f code c rest Q) {pl sd : Int} {D0 : Int → Int → D} {b : Nat} {e : Env} {h : List Blk} {K : V → Env → List Blk → Prop} {v0 : V}
    (hv : ∀ (w : World) (M : MM) (h : List Blk) (cs : List Value), repC w M h v0 cs → repC w M h (.d (D0 pl sd)) cs) (hs : SrcB code h D0) (hb : h[b]? = some (.box v0)) (hb0 : Nat.ble 1 b = true) (hr : plains rest = true) (hst : stOK pl sd) (hpl : pl + c ≤ 4611686018427387904)
    (H : ∀ v bs pl' sd', Q v bs → pl ≤ pl' → pl' ≤ pl + c → stOK pl' sd' → (v.fit true && fitBs true bs) = true ∧ K (v.shift (h.length - 1)) e (h.set b (.box (.d (D0 pl' sd'))) ++ shiftBs (h.length - 1) bs)) : CallM P f (.pB b [] 0 :: rest) e h K where
  fn := pz.fn
  run B X N M a w args R hargs := by
    obtain ⟨c0, args, rfl, h1, h2⟩ := hargs
    have h2' := plains_rep (w' := w) (M' := [none]) (h' := [.gone]) rest args hr h2
    have hb1 : 1 ≤ b := Nat.le_of_ble_eq_true hb0
    have hbl : b < h.length := (List.getElem?_eq_some_iff.1 hb).1
    obtain ⟨g, F, m1, rfl⟩ := rep_pB.1 (rep_of_rep1 h1)
    obtain ⟨rfl, arr, t, hg, hcs⟩ : F = [] ∧ ∃ arr t, w.heap[g]? = some (.cells arr t (0, 0)) ∧ repC w M h v0 arr.toList := R.inv.blk b _ _ hb m1
    obtain ⟨cc, ha, k1, k2⟩ := hs.out R.inv (hv _ _ _ _ hcs)
    obtain rfl : arr = #[cc, .int .i64 pl, .int .u64 sd] := by
      apply Array.toList_inj.1
      exact ha
    have hgO : g ∈ M.O := mem_O m1 (by simp [mO])
    have hglt := lt_of_heap hg
    have kg : repD [g] w (.lst code) [cc] := by
      refine repD_mv (fun y hy _ => ⟨fun q => ?_, rfl⟩) _ _ k1
      have hyg : y = g := by simpa using q
      exact hy (hyg ▸ hgO)
    refine (pz.run pl sd w g t cc args hst hpl hg kg h2').mono ?_
    rintro en w' ⟨v, bs, cv, Mn, pl', sd', qv, p1, p2, p3, rfl, qI, qr, qlo, q4, q2⟩
    obtain ⟨hf, HK⟩ := H v bs pl' sd' qv p1 p2 p3
    simp only [Bool.and_eq_true] at hf
    obtain ⟨hf1, hf2⟩ := hf
    -- the world with the source turned, ahead of the new blocks
    obtain ⟨w1, hw1⟩ : ∃ w1 : World, w1 = { w' with heap := w'.heap.extract 0 w.heap.size } := ⟨_, rfl⟩
    have s1 : w1.heap.size = w.heap.size := by
      rw [hw1]
      have := q2.size
      simp only [Array.size_extract]
      omega
    have g1 : ∀ x, x < w.heap.size → w1.heap[x]? = w'.heap[x]? := fun x hx => by
      rw [hw1]
      have := q2.size
      simp only
      rw [Array.getElem?_extract, if_pos (by omega), Nat.zero_add]
    have hx1 : Ext B w1 := by
      have hlo := R.inv.lo b _ _ hb m1 rfl
      have : Ext B w1 := Below.trans R.ext ⟨by rw [hw1]; exact q2.os, by rw [hw1]; exact q2.tape, by rw [hw1]; exact q2.output, by rw [s1]; exact Nat.le_refl _, fun k hk => by
        have hkw : k < w.heap.size := Nat.lt_of_lt_of_le hk R.base
        rw [g1 k hkw]
        refine q2.ch k hkw (fun hm => ?_)
        have := hlo k (by simpa [mO] using hm)
        omega⟩
      exact this
    obtain ⟨M', R', _, _⟩ := R.reset (w' := w1) hx1 m1 (by omega) hb (.inl rfl) [] [] (by simp) (by simp) (by simp) (by simp) (m' := some (g, [])) q2.nd
      (fun x hx => .inl hx) (fun x hx => by
        have hxg : x = g := by simpa [mO] using hx
        rw [s1, hxg]; exact hglt) (Nat.le_of_eq s1.symm) (fun x hx hxm => by rw [g1 x hx]; exact q2.ch x hx hxm) (k' := .box (.d (D0 pl' sd'))) rfl
      (fun _ ga F1 e1 => by
        cases e1
        refine ⟨⟨[], rfl⟩, ?_, fun arr1 t1 hg1 => ?_⟩
        · simp only [nOf, hb, List.getElem?_set_self hbl]
        · rw [hg] at hg1
          cases hg1
          exact ⟨#[cc, .int .i64 pl', .int .u64 sd'], by rw [g1 g hglt]; exact q4, rfl⟩)
      (fun M' h' hx => ⟨rfl, _, t, by rw [g1 g hglt]; exact q4, k2 _ _ _ _ hx p3⟩)
    simp only [dropE, dropK, goneL] at R'
    have hx : Ext w1 w' := by
      have : Ext w1 w' := ⟨by rw [hw1], by rw [hw1], by rw [hw1], by rw [s1]; exact q2.size, fun k hk => by rw [s1] at hk; exact (g1 k hk).symm⟩
      exact this
    have hlen : Mn.length = bs.length := by have := qI.len; simpa using this
    have hlo' : ∀ x ∈ MM.O Mn, w1.heap.size ≤ x := fun x hx => by rw [s1]; exact qlo x hx
    have hnd' : (MM.O Mn).Nodup := by
      have := qI.nd
      rw [O_cons] at this
      exact (List.nodup_append.1 this).2.1
    have hhi' : ∀ g ∈ (MM.O Mn), g < w'.heap.size := fun g hg => qI.hi g (by rw [O_cons]; exact List.mem_append_right _ hg)
    have hl' : (h.set b (.box (.d (D0 pl' sd')))).length = h.length := List.length_set
    have S : Sh true [] M' (h.set b (.box (.d (D0 pl' sd')))) := ⟨R'.inv.len, by rw [hl']; omega, .inl rfl⟩
    have mv : Mv (fun _ => True) w1 M' (h.set b (.box (.d (D0 pl' sd')))) w' (M' ++ Mn) (h.set b (.box (.d (D0 pl' sd'))) ++ shiftBs (h.length - 1) bs) := push_mv R'.inv.len hx R'.inv.hi hlo'
    have e0 : (mX [] : Option (Nat × List Nat)) = none := rfl
    refine ⟨_, cv, _, _, M' ++ Mn, rfl, HK, R'.step (R'.ext.trans hx) (R'.inv.push R'.base hx (by rw [shiftBs_len]; exact hlen) hnd' hlo' hhi' ?_) mv (fr_push R'.fr _) (fr_push R'.fh _), ?_⟩
    · intro j k m hk hm
      rw [shiftBs_get] at hk
      obtain ⟨k0, hk0, rfl⟩ := Option.map_eq_some_iff.1 hk
      have := BRep_sh S (fitBs_get bs j k0 hf2 hk0) (qI.blk (j + 1) k0 m (by simpa using hk0) (by simpa using hm))
      rw [hl'] at this
      exact this
    · have := rep_sh S hf1 qr
      rw [hl'] at this
      exact this
section
variable {P : Program} {f : FuncId} {code : List D} {c : Int} {rest : List V} {Q : V → List Blk → Prop} {pl sd : Int} {b : Nat} {e : Env} {h : List Blk} {K : V → Env → List Blk → Prop}
theorem clz_ (pz : PZ P f code c rest Q) (hst : stOK pl sd) (hpl : pl + c ≤ 4611686018427387904) {G : V → List Blk → Int → Int → Prop} (H : ∀ v bs pl' sd', Q v bs → pl ≤ pl' → pl' ≤ pl + c → stOK pl' sd' → (v.fit true && fitBs true bs) = true ∧ G v bs pl' sd') (hb : h[b]? = some (.box (.d (srcD code pl sd))) := by rfl)
    (hb0 : Nat.ble 1 b = true := by rfl) (hr : plains rest = true := by rfl) (hk : ∀ v bs pl' sd', G v bs pl' sd' → K (v.shift (h.length - 1)) e (h.set b (.box (.d (srcD code pl' sd'))) ++ shiftBs (h.length - 1) bs) := by (intro v bs pl' sd' H; exact H)) : CallW P false f (.pB b [] 0 :: rest) e h K :=
  ⟨.inr ⟨rfl, pz.call (fun _ _ _ _ H => H) SrcB.d hb hb0 hr hst hpl (fun v bs pl' sd' q1 q2 q3 q4 => ⟨(H v bs pl' sd' q1 q2 q3 q4).1, hk _ _ _ _ (H v bs pl' sd' q1 q2 q3 q4).2⟩)⟩⟩
theorem clz0_ (pz : PZ P f code c rest Q) (hpl : 0 + c ≤ 4611686018427387904) {G : V → List Blk → Int → Int → Prop} (H : ∀ v bs pl' sd', Q v bs → 0 ≤ pl' → pl' ≤ 0 + c → stOK pl' sd' → (v.fit true && fitBs true bs) = true ∧ G v bs pl' sd') (hb : h[b]? = some (.box (.st [.d (.lst code), .d (.int .i64 0), .d (.int .u64 0)])) := by rfl)
    (hb0 : Nat.ble 1 b = true := by rfl) (hr : plains rest = true := by rfl) (hk : ∀ v bs pl' sd', G v bs pl' sd' → K (v.shift (h.length - 1)) e (h.set b (.box (.d (srcD code pl' sd'))) ++ shiftBs (h.length - 1) bs) := by (intro v bs pl' sd' H; exact H)) : CallW P false f (.pB b [] 0 :: rest) e h K :=
  ⟨.inr ⟨rfl, pz.call (D0 := srcD code) (v0 := .st [.d (.lst code), .d (.int .i64 0), .d (.int .u64 0)]) (pl := 0) (sd := 0) (fun _ _ _ _ H => H) SrcB.d hb hb0 hr (by unfold stOK; simp) hpl (fun v bs pl' sd' q1 q2 q3 q4 => ⟨(H v bs pl' sd' q1 q2 q3 q4).1, hk _ _ _ _ (H v bs pl' sd' q1 q2 q3 q4).2⟩)⟩⟩
end
theorem clzr_ {P : Program} {f : FuncId} {code : List D} {c : Int} {rest : List V} {Q : V → List Blk → Prop} {pl sd : Int} {b : Nat} {e : Env} {h : List Blk} {K : V → Env → List Blk → Prop} {cc : Value} {e0 : Env} {f0 : Nat → Value}
    (pz : PZ P f code c rest Q) (hst : stOK pl sd) (hpl : pl + c ≤ 4611686018427387904) {G : V → List Blk → Int → Int → Prop} (H : ∀ v bs pl' sd', Q v bs → pl ≤ pl' → pl' ≤ pl + c → stOK pl' sd' → (v.fit true && fitBs true bs) = true ∧ G v bs pl' sd') (hb : h[b]? = some (.box (.d (srcR cc pl sd))) := by rfl)
    (hk3 : h[3]? = some (.keep e0 f0) := by rfl) (he : gt e0 0 = .d (.lst code) := by rfl) (hf : f0 0 = cc := by rfl) (hb0 : Nat.ble 1 b = true := by rfl) (hr : plains rest = true := by rfl)
    (hk : ∀ v bs pl' sd', G v bs pl' sd' → K (v.shift (h.length - 1)) e (h.set b (.box (.d (srcR cc pl' sd'))) ++ shiftBs (h.length - 1) bs) := by (intro v bs pl' sd' H; exact H)) : CallW P false f (.pB b [] 0 :: rest) e h K :=
  ⟨.inr ⟨rfl, pz.call (fun _ _ _ _ H => H) (SrcB.r hk3 he hf) hb hb0 hr hst hpl (fun v bs pl' sd' q1 q2 q3 q4 => ⟨(H v bs pl' sd' q1 q2 q3 q4).1, hk _ _ _ _ (H v bs pl' sd' q1 q2 q3 q4).2⟩)⟩⟩
def zQ (tt : TT) (rs : List ResultVar) (c pl : Int) (Q : V → List Blk → Prop) (cc : Value) (G : Blk) : Post
  | .normal => fun e h => retV tt rs e h fun va => ∃ v bs, Q v bs ∧ RetOK h va v bs ∧ ∃ pl' sd' r, pl ≤ pl' ∧ pl' ≤ pl + c ∧ stOK pl' sd' ∧ h = .gone :: G :: .box (.d (srcR cc pl' sd')) :: r
  | .ret => fun e h => retV tt rs e h fun va => ∃ v bs, Q v bs ∧ RetOK h va v bs ∧ ∃ pl' sd' r, pl ≤ pl' ∧ pl' ≤ pl + c ∧ stOK pl' sd' ∧ h = .gone :: G :: .box (.d (srcR cc pl' sd')) :: r
  | .exit _ => fun _ _ => False
theorem pz_intro {P : Program} {tt : TT} (hT : TOk P tt) (hm : P.follows .mixedOrders = true) {f : FuncId} {fn : Func} {cd : Code} (hf : P.funcs[f]? = some fn) (hb : fn.body = some cd) (hname : (fn.name == "runtime.NumGoroutine") = false)
    (hN : codeB fn.ntmps cd = true) {code : List D} {c : Int} {rest : List V} (hA : Nat.ble (rest.length + 1) fn.ntmps = true) {Q : V → List Blk → Prop} (hrp : plains rest = true)
    (H : ∀ (k : Nat → Option Obj) (s g : Nat) (t : TypeId) (cc : Value) (pl sd : Int), wfVs rest → stOK pl sd → pl + c ≤ 4611686018427387904 →
      wpC P tt cd (zQ tt fn.results.toList c pl Q cc (.gho k s g 4 t)) (argE 0 (.pB 2 [] 0 :: rest)) [.gone, .gho k s g 4 t, .box (.d (srcR cc pl sd)), .keep [(0, .d (.lst code))] (fun _ => cc)]) : PZ P f code c rest Q where
  fn := ⟨fn, hf, hname, by rw [hb]; rfl⟩
  run := fun pl sd w g t cc args hst hpl hg hcode hargs => by
    have hO : MM.O [none, none, some (g, []), none] = [g] := by simp [MM.O, mO]
    have hglt := lt_of_heap hg
    let fr : Nat → Option Obj := fun b => if b ∈ [g] then none else w.heap[b]?
    have hfr : ∀ b o, fr b = some o → b ∉ [g] ∧ w.heap[b]? = some o := fun b o hc => by
      simp only [fr] at hc
      split at hc
      · cases hc
      · rename_i hm'; exact ⟨hm', hc⟩
    have hlenT : ∀ (vs : List V) (cs : List Value), repT w [none] [.gone] vs cs → cs.length = vs.length := by
      intro vs
      induction vs with
      | nil => intro cs H; cases H; rfl
      | cons v vs ih => intro cs H; obtain ⟨c, cs', rfl, _, h2⟩ := H; simp [ih _ h2]
    have hl := hlenT rest args hargs
    have hA' := Nat.le_of_ble_eq_true hA
    have hcc1 : cc.oneCell' = true := repD_one (.lst code) [cc] hcode cc (by simp)
    have hargs2 : repT w [none, none, some (g, []), none] [.gone, .gho fr w.heap.size g 4 t, .box (.d (srcR cc pl sd)), .keep [(0, .d (.lst code))] (fun _ => cc)] (.pB 2 [] 0 :: rest) (.pointer (some ⟨g, 0, none⟩) :: args) := by
      refine ⟨_, args, rfl, rep1_of_rep rfl (rep_pB.2 ⟨g, [], rfl, rfl⟩), plains_rep rest args hrp hargs⟩
    have R : Rep { w with heap := #[] } [] fn.ntmps [none, none, some (g, []), none] (argE 0 (.pB 2 [] 0 :: rest)) [.gone, .gho fr w.heap.size g 4 t, .box (.d (srcR cc pl sd)), .keep [(0, .d (.lst code))] (fun _ => cc)]
        { tmps := (.pointer (some ⟨g, 0, none⟩) :: args).toArray ++ Array.replicate (fn.ntmps - (Value.pointer (some ⟨g, 0, none⟩) :: args).toArray.size) Go.undef, defers := [] } w := {
      ext := ⟨rfl, rfl, rfl, Nat.zero_le _, fun k hk => by simp at hk⟩
      inv := ⟨rfl, fun b k m hk hm => by
          match b, hk, hm with
          | 0, hk, hm => simp at hk; subst hk; trivial
          | 1, hk, hm =>
            simp at hk hm
            subst hk
            exact ⟨fun b o hc => by rw [hO]; exact hfr b o hc, Nat.le_refl _, [], rfl, .inr ⟨_, hg, rfl⟩⟩
          | 2, hk, hm =>
            simp at hk hm
            subst hk
            subst hm
            exact ⟨rfl, _, t, hg, srcR_rep.2 ⟨rfl, hcc1, stOK_in hst⟩⟩
          | 3, hk, hm =>
            simp at hk hm
            subst hk
            intro k
            cases k with
            | zero =>
              refine rep_of_rep1 ?_
              show repD (MM.O [none, none, some (g, []), none]) w (.lst code) [cc]
              rw [hO]; exact hcode
            | succ k => trivial
          | b + 4, hk, hm => simp at hk, by rw [hO]; simp, fun _ _ _ _ _ _ g' _ => Nat.zero_le _, by
          rw [hO]
          intro x hx
          have : x = g := by simpa using hx
          subst this
          exact hglt⟩
      env := fun k => by
        rw [argE_get, if_pos (Nat.zero_le _), Nat.sub_zero]
        split
        · rename_i v hv
          obtain ⟨cc', q1, q2⟩ := repT_get _ _ k v hargs2 hv
          have hk : k < (Value.pointer (some ⟨g, 0, none⟩) :: args).length := (List.getElem?_eq_some_iff.1 q1).1
          have : ((.pointer (some ⟨g, 0, none⟩) :: args).toArray ++ Array.replicate (fn.ntmps - (Value.pointer (some ⟨g, 0, none⟩) :: args).toArray.size) Go.undef).getD k Go.undef = cc' := by
            rw [Array.getD_eq_getD_getElem?, Array.getElem?_append_left (by simpa using hk)]
            simp only [List.getElem?_toArray, q1, Option.getD_some]
          dsimp only
          rw [this]
          exact rep_of_rep1 q2
        · trivial
      sz := by simp [hl]; omega
      df := rfl
      fr := rfl
      fh := rfl }
    have hwf : wfVs rest := repT_wf _ _ hargs
    refine calls_of_wp hf hb (wp_mono (code_sound hT hm cd _ _ _ _ _ _ hN (H fr w.heap.size g t cc pl sd hwf hst hpl) R) fun x a' w' hx => ?_)
    have fin : ∀ (e : Env) (h : List Blk) (M : MM), retV tt fn.results.toList e h (fun va => ∃ v bs, Q v bs ∧ RetOK h va v bs ∧ ∃ pl' sd' r, pl ≤ pl' ∧ pl' ≤ pl + c ∧ stOK pl' sd' ∧ h = .gone :: .gho fr w.heap.size g 4 t :: .box (.d (srcR cc pl' sd')) :: r) → Rep { w with heap := #[] } [] fn.ntmps M e h a' w' →
        a'.defers = [] ∧ ∃ cv, (results fn a'.tmps).run P w' = .ok cv w' ∧ ∃ v bs cv' M' pl' sd', Q v bs ∧ pl ≤ pl' ∧ pl' ≤ pl + c ∧ stOK pl' sd' ∧ Ending.returned cv = .returned cv' ∧ MInv 0 w' (none :: M') (.gone :: bs) ∧ rep w' (none :: M') (.gone :: bs) v cv' ∧ (∀ x ∈ MM.O M', w.heap.size ≤ x) ∧ w'.heap[g]? = some (.cells #[cc, .int .i64 pl', .int .u64 sd'] t (0, 0)) ∧ Kept w w' [g] [g] := by
      intro e h M hr R'
      have post : ∀ {va : V} {cv : Value}, rep w' M h va cv → (∃ v bs, Q v bs ∧ RetOK h va v bs ∧ ∃ pl' sd' r, pl ≤ pl' ∧ pl' ≤ pl + c ∧ stOK pl' sd' ∧ h = .gone :: .gho fr w.heap.size g 4 t :: .box (.d (srcR cc pl' sd')) :: r) → ∃ v bs cv' M' pl' sd', Q v bs ∧ pl ≤ pl' ∧ pl' ≤ pl + c ∧ stOK pl' sd' ∧ Ending.returned cv = .returned cv' ∧ MInv 0 w' (none :: M') (.gone :: bs) ∧ rep w' (none :: M') (.gone :: bs) v cv' ∧ (∀ x ∈ MM.O M', w.heap.size ≤ x) ∧ w'.heap[g]? = some (.cells #[cc, .int .i64 pl', .int .u64 sd'] t (0, 0)) ∧ Kept w w' [g] [g] := by
        rintro va cv hva ⟨v, bs, hq, hret, pl', sd', r, p1, p2, p3, rfl⟩
        obtain ⟨m1, hm1⟩ := at_lt (xs := M) (k := 1) (by rw [R'.inv.len]; simp)
        obtain ⟨q1, q2, F', q3, q45⟩ : (∀ b o, fr b = some o → b ∉ M.O ∧ w'.heap[b]? = some o) ∧ w.heap.size ≤ w'.heap.size ∧ ∃ F', M[2]? = some (some (g, F')) ∧ (4 = 0 ∨ ∃ arr', w'.heap[g]? = some (.cells arr' t (0, 0)) ∧ arr'.size + 1 = 4) := R'.inv.blk 1 _ _ rfl hm1
        obtain ⟨arr', q4, q5⟩ : ∃ arr', w'.heap[g]? = some (.cells arr' t (0, 0)) ∧ arr'.size + 1 = 4 := by
          rcases q45 with q | q
          · cases q
          · exact q
        obtain ⟨rfl, arr2, t2, z1, z2⟩ : F' = [] ∧ ∃ arr t, w'.heap[g]? = some (.cells arr t (0, 0)) ∧ repD M.O w' (srcR cc pl' sd') arr.toList := R'.inv.blk 2 _ _ rfl q3
        rw [q4] at z1
        cases z1
        obtain ⟨z3, _⟩ := srcR_rep.1 z2
        obtain rfl : arr' = #[cc, .int .i64 pl', .int .u64 sd'] := Array.toList_inj.1 z3
        have back : ∀ x, x < w.heap.size → x ∉ [g] → x ∉ M.O ∧ w'.heap[x]? = w.heap[x]? := fun x hx hxm => by
          have e1 : fr x = w.heap[x]? := by simp only [fr]; rw [if_neg hxm]
          have e2 : w.heap[x]? = some w.heap[x] := Array.getElem?_eq_getElem hx
          obtain ⟨u1, u2⟩ := q1 x _ (e1.trans e2)
          exact ⟨u1, by rw [u2, e2]⟩
        obtain ⟨M', y1, y2, y3⟩ := ret_sound3 R' hva hret
        refine ⟨v, bs, cv, M', pl', sd', hq, p1, p2, p3, rfl, y1, y2, fun x hx => ?_, q4, ⟨R'.ext.os, R'.ext.tape, R'.ext.output, q2, fun x hx hxm => (back x hx hxm).2, by simp, fun x hx => .inl hx, fun x hx => R'.inv.hi x (mem_O q3 hx)⟩⟩
        obtain ⟨b, m, n, xs, dp, hbm, hxm, hbb⟩ := y3 x hx
        refine Nat.le_of_not_lt fun hlt => ?_
        refine (back x hlt (fun hxg => ?_)).1 (mem_O hbm hxm)
        have hb2 : b = 2 := by
          have hxg' : x ∈ mO (some (g, [])) := by simpa [mO] using hxg
          exact O_block_inj R'.inv q3 hbm hxg' hxm
        subst hb2
        cases hbb
      obtain ⟨vs, cvs, h1, h2, h3, h4⟩ := res_sound hT R' _ _ hr
      refine ⟨R'.df, _, run_results h4, ?_⟩
      match vs, cvs, h2 with
      | [va], [cv], _ =>
        obtain ⟨c', k1, k2⟩ := h3 0 va rfl
        cases k1
        exact post k2 h1
      | [], [], _ => exact post (va := .tup []) (cv := .tuple #[]) ⟨[], rfl, rfl⟩ h1
      | va :: vb :: vs, ca :: cb :: cvs, h2 =>
        dsimp only at h1
        cases hok : okTs (va :: vb :: vs) with
        | false => rw [hok] at h1; exact h1.elim
        | true =>
          rw [hok] at h1
          simp only [cond_true] at h1
          have hall : ∀ (vs : List V) (cs : List Value), vs.length = cs.length → okTs vs = true → (∀ (i : Nat) (v : V), vs[i]? = some v → ∃ c, cs[i]? = some c ∧ rep w' M h v c) → repT w' M h vs cs := by
            intro vs
            induction vs with
            | nil => intro cs hl _ _; cases cs with
              | nil => rfl
              | cons _ _ => simp at hl
            | cons v vs ih =>
              intro cs hl ho hg
              cases cs with
              | nil => simp at hl
              | cons c cs =>
                simp only [okTs, Bool.and_eq_true] at ho
                obtain ⟨c', k1, k2⟩ := hg 0 v rfl
                cases k1
                exact ⟨c, cs, rfl, rep1_of_rep ho.1 k2, ih cs (by simpa using hl) ho.2 fun i u hi => by simpa using hg (i + 1) u (by simpa using hi)⟩
          exact post (va := .tup (va :: vb :: vs)) (cv := .tuple (ca :: cb :: cvs).toArray) ⟨_, rfl, hall _ _ h2 hok h3⟩ h1
    cases x with
    | normal => obtain ⟨e, h, M, k1, k2⟩ := hx; exact fin e h M k1 k2
    | ret => obtain ⟨e, h, M, k1, k2⟩ := hx; exact fin e h M k1 k2
    | exit id => obtain ⟨e, h, M, k1, k2⟩ := hx; exact k1.elim
    | goto l => exact hx.elim
    | panic => exact hx.elim
    | outgrown => exact hx.elim
theorem share1 {α : Type} {K S : α → V → Env → List Blk → Prop} {G : Prop} (h1 : (∀ a v e h, S a v e h → K a v e h) → G) (h2 : ∀ a v e h, S a v e h → K a v e h) : G := h1 h2
theorem PEs.callS {P : Program} {f : FuncId} {code : List D} {c : Int} {rest : List V} {Q : V → Prop} (pe : PEs P f code c rest Q) {pl sd : Int} {D0 : Int → Int → D} {b : Nat} {e : Env} {h : List Blk} {K : V → Env → List Blk → Prop} {v0 : V}
    (hv : ∀ (w : World) (M : MM) (h : List Blk) (cs : List Value), repC w M h v0 cs → repC w M h (.d (D0 pl sd)) cs) (hs : SrcB code h D0) (hb : h[b]? = some (.box v0)) (hb0 : Nat.ble 1 b = true) (hr : plains rest = true) (hst : stOK pl sd) (hpl : pl + c ≤ 4611686018427387904) (hQ : ∀ v, Q v → v.resOK = true)
    (S : V → Env → List Blk → Prop) (H : ∀ v pl' sd', Q v → pl ≤ pl' → pl' ≤ pl + c → stOK pl' sd' → ∃ e0 h0, S v e0 h0 ∧ Weak e (h.set b (.box (.d (D0 pl' sd')))) e0 h0) (HK : ∀ v e h, S v e h → K v e h) : CallM P f (.pB b [] 0 :: rest) e h K where
  fn := pe.fn
  run B X N M a w args R hargs := by
    have hc := pe.call (K := fun v e' h' => v.resOK = true ∧ ∃ e0 h0, S v e0 h0 ∧ Weak e' h' e0 h0) hv hs hb hb0 hr hst hpl (fun v pl' sd' q1 q2 q3 q4 => ⟨hQ v q1, H v pl' sd' q1 q2 q3 q4⟩)
    refine (hc.run B X N M a w args R hargs).mono ?_
    rintro en w' ⟨v, cv, e', h', M', rfl, ⟨hv1, e0, h0, hS, hW⟩, R', hr'⟩
    obtain ⟨M2, R2⟩ := hW _ _ _ _ _ _ R'
    exact ⟨v, cv, e0, h0, M2, rfl, HK v e0 h0 hS, R2, res_rep hv1 hr'⟩
theorem clsS_ {P : Program} {f : FuncId} {code : List D} {c : Int} {rest : List V} {Q : V → Prop} {pl sd : Int} {b : Nat} {e : Env} {h : List Blk} {K : V → Env → List Blk → Prop}
    (pe : PEs P f code c rest Q) (hst : stOK pl sd) (hpl : pl + c ≤ 4611686018427387904) (hQ : ∀ v, Q v → v.resOK = true) (S : V → Env → List Blk → Prop) {h' : Int → Int → List Blk} (H : ∀ v pl' sd', Q v → pl ≤ pl' → pl' ≤ pl + c → stOK pl' sd' → ∃ e0 h0, S v e0 h0 ∧ Weak e (h' pl' sd') e0 h0) (HK : ∀ v e h, S v e h → K v e h) (hb : h[b]? = some (.box (.d (srcD code pl sd))) := by rfl)
    (hb0 : Nat.ble 1 b = true := by rfl) (hr : plains rest = true := by rfl)
    (hh : ∀ pl' sd', h' pl' sd' = h.set b (.box (.d (srcD code pl' sd'))) := by (intro _ _; rfl)) : CallW P false f (.pB b [] 0 :: rest) e h K :=
  ⟨.inr ⟨rfl, pe.callS (fun _ _ _ _ H => H) SrcB.d hb hb0 hr hst hpl hQ S (fun v pl' sd' q1 q2 q3 q4 => by rw [← hh]; exact H v pl' sd' q1 q2 q3 q4) HK⟩⟩
theorem pk_res {n : Int} {v : V} (h : ∃ x, v = .d (.int .i64 x) ∧ 0 ≤ x ∧ (x < n ∨ x = 0)) : v.resOK = true := by obtain ⟨x, rfl, _⟩ := h; rfl
theorem on_res {v : V} (h : ∃ b, v = .d (.bool b)) : v.resOK = true := by obtain ⟨x, rfl⟩ := h; rfl
theorem PEs.callX {P : Program} {f : FuncId} {code : List D} {c : Int} {rest : List V} {Q : V → Prop} (pe : PEs P f code c rest Q) {pl sd : Int} {D0 : Int → Int → D} {b : Nat} {e : Env} {h : List Blk} {K : V → Env → List Blk → Prop} {v0 : V}
    (hv : ∀ (w : World) (M : MM) (h : List Blk) (cs : List Value), repC w M h v0 cs → repC w M h (.d (D0 pl sd)) cs) (hs : SrcB code h D0) (hb : h[b]? = some (.box v0)) (hb0 : Nat.ble 1 b = true) (hr : plains rest = true) (hst : stOK pl sd) (hpl : pl + c ≤ 4611686018427387904) (hQ : ∀ v, Q v → v.resOK = true)
    (S : V → Env → List Blk → Prop) (H : ∀ v pl' sd', Q v → pl ≤ pl' → pl' ≤ pl + c → stOK pl' sd' → WeakX e (h.set b (.box (.d (D0 pl' sd')))) (S v)) (HK : ∀ v e h, S v e h → K v e h) : CallM P f (.pB b [] 0 :: rest) e h K where
  fn := pe.fn
  run B X N M a w args R hargs := by
    have hc := pe.call (K := fun v e' h' => v.resOK = true ∧ WeakX e' h' (S v)) hv hs hb hb0 hr hst hpl (fun v pl' sd' q1 q2 q3 q4 => ⟨hQ v q1, H v pl' sd' q1 q2 q3 q4⟩)
    refine (hc.run B X N M a w args R hargs).mono ?_
    rintro en w' ⟨v, cv, e', h', M', rfl, ⟨hv1, hW⟩, R', hr'⟩
    obtain ⟨e0, h0, M2, hS, R2⟩ := hW _ _ _ _ _ _ R'
    exact ⟨v, cv, e0, h0, M2, rfl, HK v e0 h0 hS, R2, res_rep hv1 hr'⟩
theorem clsX_ {P : Program} {f : FuncId} {code : List D} {c : Int} {rest : List V} {Q : V → Prop} {pl sd : Int} {b : Nat} {e : Env} {h : List Blk} {K : V → Env → List Blk → Prop}
    (pe : PEs P f code c rest Q) (hst : stOK pl sd) (hpl : pl + c ≤ 4611686018427387904) (hQ : ∀ v, Q v → v.resOK = true) (S : V → Env → List Blk → Prop) {h' : Int → Int → List Blk} (H : ∀ v pl' sd', Q v → pl ≤ pl' → pl' ≤ pl + c → stOK pl' sd' → WeakX e (h' pl' sd') (S v)) (HK : ∀ v e h, S v e h → K v e h) (hb : h[b]? = some (.box (.d (srcD code pl sd))) := by rfl)
    (hb0 : Nat.ble 1 b = true := by rfl) (hr : plains rest = true := by rfl)
    (hh : ∀ pl' sd', h' pl' sd' = h.set b (.box (.d (srcD code pl' sd'))) := by (intro _ _; rfl)) : CallW P false f (.pB b [] 0 :: rest) e h K :=
  ⟨.inr ⟨rfl, pe.callX (fun _ _ _ _ H => H) SrcB.d hb hb0 hr hst hpl hQ S (fun v pl' sd' q1 q2 q3 q4 => by rw [← hh]; exact H v pl' sd' q1 q2 q3 q4) HK⟩⟩
theorem coord_e (code : List UInt8) (n : Int) (hn1 : 0 ≤ n) (hn2 : n ≤ 262144) : PEs Try.prog 30 (code.map bD) 5 [.d (.int .i64 n)] (fun v => ∃ x, v = .d (.int .i64 x) ∧ -n ≤ x ∧ x ≤ n) := by
  refine pe_intro ttOk (by kernel_rfl) Try.func30 rfl (by kernel_rfl) (by kernel_rfl) (by rfl) (by rfl) (fun k s g t cc pl sd hw hst hpl => ?_)
  have c0 := next_e code
  have c1 := one_e code 2
  (conv => whnf)
  (repeat (refine stg_ ?_))
  (refine clr_ c0 (by assumption) (by omega) ?_; rintro _ pl1 sd1 ⟨x, rfl, hx1, hx2⟩ hl1 hl2 hs1; (conv => whnf))
  (repeat (refine stg_ ?_))
  (refine clr_ c0 (by assumption) (by omega) ?_; rintro _ pl2 sd2 ⟨y, rfl, hy1, hy2⟩ hl3 hl4 hs2; (conv => whnf))
  (repeat (refine stg_ ?_))
  (refine clr_ c0 (by assumption) (by omega) ?_; rintro _ pl3 sd3 ⟨z, rfl, hz1, hz2⟩ hl5 hl6 hs3; (conv => whnf))
  (repeat (refine stg_ ?_))
  have ht : (x * 65536 + y * 256 + z).tmod (n + 1) = (x * 65536 + y * 256 + z) % (n + 1) := Int.tmod_eq_emod_of_nonneg (by omega)
  have hm := Int.emod_nonneg (x * 65536 + y * 256 + z) (b := n + 1) (by omega)
  have hm2 := Int.emod_lt_of_pos (x * 65536 + y * 256 + z) (b := n + 1) (by omega)
  generalize hg : (x * 65536 + y * 256 + z).tmod (n + 1) = q at *
  rw [← ht] at hm hm2
  (refine clr_ c1 (by assumption) (by omega) ?_; rintro _ pl4 sd4 ⟨b, rfl⟩ hl7 hl8 hs4; (conv => whnf))
  (refine br_ (fun hb => ?_) (fun hb => ?_))
  · (repeat (refine stg_ ?_))
    (refine ⟨⟨_, rfl, by omega, by omega⟩, rfl, _, _, _, ?_, ?_, ?_, rfl⟩ <;> first | omega | assumption)
  · (repeat (refine stg_ ?_))
    (refine ⟨⟨_, rfl, by omega, by omega⟩, rfl, _, _, _, ?_, ?_, ?_, rfl⟩ <;> first | omega | assumption)
def PtQ (v : V) (bs : List Blk) : Prop := ∃ p : TPt, v = .d p.D ∧ bs = []
theorem l03Draw_z (code : List UInt8) (n : Int) (hn1 : 0 ≤ n) (hn2 : n ≤ 262144) : PZ Try.prog 20 (code.map bD) 10 [.d (.int .i64 n)] PtQ := by
  refine pz_intro ttOk (by kernel_rfl) Try.func20 rfl (by kernel_rfl) (by kernel_rfl) (by rfl) (by rfl) (fun k s g t cc pl sd hw hst hpl => ?_)
  have c0 := coord_e code n hn1 hn2
  (conv => whnf)
  (repeat (refine stg_ ?_))
  (refine clr_ c0 (by assumption) (by omega) ?_; rintro _ pl1 sd1 ⟨x, rfl, hx1, hx2⟩ hl1 hl2 hs1; (conv => whnf))
  (repeat (refine stg_ ?_))
  (refine clr_ c0 (by assumption) (by omega) ?_; rintro _ pl2 sd2 ⟨y, rfl, hy1, hy2⟩ hl3 hl4 hs2; (conv => whnf))
  (repeat (refine stg_ ?_))
  refine ⟨_, _, ⟨⟨x, y⟩, rfl, rfl⟩, ?_, pl2, sd2, _, by omega, by omega, hs2, rfl⟩
  refine RetOK.d rfl rfl ?_
  (conv => whnf)
  exact ⟨_, rfl, _, _, rfl, rfl, _, _, rfl, rfl, rfl⟩
def trDL : OT := .q 0 (.q 2 (.q 3 (.q 5 (.alt 1 (.alt 4 (.alt 6 (.q 7 (.alt 8 (.alt 9 (.alt 10 (.q 11 (.alt 12 .done .nil)) .nil) .nil) .nil)) .nil) .nil) (.alt 4 (.alt 1 (.alt 6 (.q 7 (.alt 8 (.alt 9 (.alt 10 (.q 11 (.alt 12 .done .nil)) .nil) .nil) .nil)) .nil) (.alt 6 (.q 1 (.q 7 (.alt 8 (.alt 9 (.alt 10 (.q 11 (.alt 12 .done .nil)) .nil) .nil) .nil))) .nil)) .nil)))))
def LpQ (v : V) (bs : List Blk) : Prop := ∃ ks : List TKnot, 1 ≤ ks.length ∧ ks.length ≤ 9 ∧ v = .st [.own 1 0 ks.length] ∧ bs = [.arr 3 (ks.map TKnot.D) true]
set_option maxHeartbeats 4000000 in
theorem l10DrawLoop_z (code : List UInt8) (n : Int) (hn1 : 0 ≤ n) (hn2 : n ≤ 262144) : PZ Try.prog 29 (code.map bD) 200 [.d (.int .i64 n)] LpQ := by
  refine pz_intro ttOk (by kernel_rfl) Try.func29 rfl (by kernel_rfl) (by kernel_rfl) (by rfl) (by rfl) (fun k s g t cc pl sd hw hst hpl => ?_)
  have c0 := pick_e code 9
  have c1 := pick_e code 5
  have c2 := l03Draw_z code n hn1 hn2
  (conv => whnf)
  (repeat (refine stg_ ?_))
  (refine clr_ c0 (by assumption) (by omega) ?_; rintro _ pl1 sd1 ⟨q, rfl, hq0, hq⟩ hl1 hl2 hs1; (conv => whnf))
  (repeat (refine stg_ ?_))
  refine LoopW.go (α := Int × Int × Int × List TKnot) (fun p => [(0, .pB 2 [] 0), (1, .d (.int .i64 n)), (4, .pB 4 [] 0), (5, .pB 5 [] 0), (6, .d (.int .i64 p.2.2.1))]) (fun p => [.gone, .gho k s g 4 t, .box (.d (srcR cc p.1 p.2.1)), .keep [(0, .d (.lst (code.map bD)))] (fun _ => cc), .box (.st [.nils]), .box (.st [.own 6 0 p.2.2.2.length]), .arr 3 (p.2.2.2.map TKnot.D) true])
    (fun p => pl ≤ p.1 ∧ p.1 ≤ pl + 2 + 12 * p.2.2.2.length ∧ stOK p.1 p.2.1 ∧ 0 ≤ p.2.2.1 ∧ p.2.2.1 + p.2.2.2.length = 1 + q) (fun p => p.2.2.1.toNat) (pl1, sd1, 1 + q, []) (Weak.trans (Weak.adoptL 5 [] rfl rfl 3 true) (Weak.cov ⟨rfl, rfl, rfl, rfl, rfl, trivial⟩ ⟨trivial, rfl, rfl, rfl, rfl, rfl, rfl, trivial⟩ rfl)) ⟨by dsimp only; omega, by dsimp only [List.length_nil]; omega, hs1, by dsimp only; omega, by simp⟩ ?_
  rintro ⟨pl2, sd2, j, ks⟩ ⟨k1, k2, k3, k4, k5⟩
  dsimp only at k1 k2 k3 k4 k5 ⊢
  have hL : (ks.map TKnot.D).length = ks.length := List.length_map _
  (conv => whnf)
  (repeat (refine stg_ ?_))
  (refine br_ (fun h1 => ?_) (fun h1 => ?_))
  · (repeat ((fail_if_success (with_reducible apply RegD.id)); (refine stg_ ?_)))
    refine RegD.cutS (fun e h => ∃ pl' sd', ∃ kn : TKnot, pl2 ≤ pl' ∧ pl' ≤ pl2 + 12 ∧ stOK pl' sd' ∧ e = [(0, .pB 2 [] 0), (1, .d (.int .i64 n)), (4, .pB 4 [] 0), (5, .pB 5 [] 0), (6, .d (.int .i64 j))] ∧ h = [.gone, .gho k s g 4 t, .box (.d (srcR cc pl' sd')), .keep [(0, .d (.lst (code.map bD)))] (fun _ => cc), .box (.st [.nils]), .box (.st [.own 6 0 (ks ++ [kn]).length]), .arr 3 ((ks ++ [kn]).map TKnot.D) true]) trDL (by kernel_rfl) ?_ ?_
    · (conv => whnf)
      (repeat ((fail_if_success (with_reducible apply RegD.id)); (refine stg_ ?_)))
      have hap : ∀ kn : TKnot, Blk.arr 3 ((ks.map TKnot.D).take ks.length ++ [kn.D]) true = Blk.arr 3 ((ks ++ [kn]).map TKnot.D) true := fun kn => by
        rw [List.take_of_length_le (by omega), List.map_append]; rfl
      refine And.intro ?_ ?_ <;> (conv => whnf)
      · (repeat ((fail_if_success (with_reducible apply RegD.id)); (refine stg_ ?_)))
        (refine clzr_ c2 (by assumption) (by omega) ?_; rintro v bs pl3 sd3 ⟨p, rfl, rfl⟩ q1 q2 q3 <;> refine ⟨rfl, ?_⟩ <;> (conv => whnf))
        (repeat ((fail_if_success (with_reducible apply RegD.id)); (refine stg_ ?_)))
        (refine clr_ c1 (by assumption) (by omega) ?_; rintro _ pl4 sd4 ⟨z, rfl, hz0, hz⟩ q4 q5 q6; (conv => whnf))
        (repeat (first | ((with_reducible apply ApW.id); (refine ApW.at (by simp only [List.length_cons, List.length_nil]; show _ ≤ 9223372036854775807; omega) (by simp only [List.length_cons, List.length_nil]; show _ * 24 ≤ 140737488355328; omega) ?_; (conv => whnf))) | ((fail_if_success (with_reducible apply RegD.id)); (fail_if_success (with_reducible apply ApW.id)); (refine stg_ ?_))))
        refine ⟨_, _, ⟨pl4, sd4, ⟨p, decide (1 < z)⟩, by omega, by omega, q6, rfl, rfl⟩, ?_⟩
        rw [List.length_append]
        refine Weak.cov ?_ ?_ ?_
        all_goals first | (refine ⟨trivial, rfl, rfl, rfl, rfl, rfl, hap ⟨p, decide (1 < z)⟩, trivial⟩) | (focus ((repeat' (first | exact trivial | with_reducible rfl | (refine ⟨?_, ?_⟩) | rfl)); done)) | rfl
      · (repeat ((fail_if_success (with_reducible apply RegD.id)); (refine stg_ ?_)))
        (refine clzr_ c2 (by assumption) (by omega) ?_; rintro v bs pl3 sd3 ⟨p, rfl, rfl⟩ q1 q2 q3 <;> refine ⟨rfl, ?_⟩ <;> (conv => whnf))
        refine And.intro ?_ ?_ <;> (conv => whnf)
        all_goals (repeat ((fail_if_success (with_reducible apply RegD.id)); (refine stg_ ?_)))
        all_goals ((refine clr_ c1 (by assumption) (by omega) ?_; rintro _ pl4 sd4 ⟨z, rfl, hz0, hz⟩ q4 q5 q6; (conv => whnf)))
        all_goals (repeat (first | ((with_reducible apply ApW.id); (refine ApW.at (by simp only [List.length_cons, List.length_nil]; show _ ≤ 9223372036854775807; omega) (by simp only [List.length_cons, List.length_nil]; show _ * 24 ≤ 140737488355328; omega) ?_; (conv => whnf))) | ((fail_if_success (with_reducible apply RegD.id)); (fail_if_success (with_reducible apply ApW.id)); (refine stg_ ?_))))
        all_goals (refine ⟨_, _, ⟨pl4, sd4, ⟨p, decide (1 < z)⟩, by omega, by omega, q6, rfl, rfl⟩, ?_⟩)
        all_goals rw [List.length_append]
        all_goals (refine Weak.cov ?_ ?_ ?_)
        all_goals first | (refine ⟨trivial, rfl, rfl, rfl, rfl, rfl, hap ⟨p, decide (1 < z)⟩, trivial⟩) | (focus ((repeat' (first | exact trivial | with_reducible rfl | (refine ⟨?_, ?_⟩) | rfl)); done)) | rfl
    · rintro e h ⟨pl3, sd3, kn, q1, q2, q3, rfl, rfl⟩
      (conv => whnf)
      (repeat (refine stg_ ?_))
      refine NextW.go (pl3, sd3, j - 1, ks ++ [kn]) covT_ ⟨by dsimp only; omega, by simp; omega, q3, by dsimp only; omega, by simp; omega⟩ (by dsimp only; omega)
  · (repeat (refine stg_ ?_))
    obtain ⟨k0, hk0⟩ := at_lt' (xs := ks) (k := 0) (by omega)
    have he : (ks.map TKnot.D)[0]? = some k0.D := by rw [List.getElem?_map, hk0]; rfl
    refine EoW.at he ?_
    (conv => whnf)
    (repeat (refine stg_ ?_))
    refine ⟨_, _, ⟨ks.set 0 ⟨k0.fAt, true⟩, by simp; omega, by simp; omega, rfl, rfl⟩, ?_, pl2, sd2, _, by omega, by omega, k3, rfl⟩
    have hset : ∀ kn : TKnot, Blk.arr 3 ((ks.map TKnot.D).set (Int.toNat 0 + 0) kn.D) true = Blk.arr 3 ((ks.set 0 kn).map TKnot.D) true := fun kn => by rw [List.map_set]; rfl
    refine ⟨⟨[some 6], ⟨by decide, congrArg some (hset ⟨k0.fAt, true⟩), trivial, trivial⟩, by decide, ⟨rfl, ?_⟩⟩⟩
    rw [List.length_set]
    (repeat' (first | ((conv => whnf); done) | ((conv => whnf); (first | (exact ⟨by decide, rfl⟩) | (exact ⟨rfl, rfl⟩) | (refine ⟨_, _, rfl, ?_, ?_⟩) | (refine ⟨_, rfl, ?_⟩) | rfl))))
def trDO : OT := .q 0 (.q 2 (.q 3 (.alt 1 (.alt 4 (.alt 5 (.alt 6 (.q 7 (.alt 8 .done .nil)) .nil) .nil) .nil) (.alt 4 (.q 1 (.alt 5 (.alt 6 (.q 7 (.alt 8 .done .nil)) .nil) .nil)) .nil))))
def OuL (ls : List TLoop) : Prop := ls.length ≤ 3 ∧ ∀ l ∈ ls, 1 ≤ l.fKnots.length ∧ l.fKnots.length ≤ 9
def OuQ (v : V) (bs : List Blk) : Prop := ∃ ls : List TLoop, OuL ls ∧ v = .st [.own 1 0 ls.length] ∧ bs = [.arr 1 (ls.map TLoop.D) true]
set_option maxHeartbeats 4000000 in
theorem l10Draw_z (code : List UInt8) : PZ Try.prog 18 (code.map bD) 700 [] OuQ := by
  refine pz_intro ttOk (by kernel_rfl) Try.func18 rfl (by kernel_rfl) (by kernel_rfl) (by rfl) (by rfl) (fun k s0 g t cc pl sd hw hst hpl => ?_)
  have c0 := pick_e code 4
  have c1 : ∀ m : Int, m = 8 ∨ m = 40 ∨ m = 500 → PZ Try.prog 29 (code.map bD) 200 [.d (.int .i64 m)] LpQ := fun m hm => l10DrawLoop_z code m (by omega) (by omega)
  (conv => whnf)
  (repeat (refine stg_ ?_))
  (refine CallW.inl ttOk (by kernel_rfl) Try.func12 rfl (by kernel_rfl) (by kernel_rfl) (by rfl) (fun s => ?_); (conv => whnf))
  (repeat ((fail_if_success (with_reducible apply RegD.id)); (refine stg_ ?_)))
  (refine clr_ c0 (by assumption) (by omega) ?_; rintro _ pl1 sd1 ⟨x, rfl, hx0, hx⟩ hl1 hl2 hs1; (conv => whnf))
  have hy : ∃ m : Int, (m = 8 ∨ m = 40 ∨ m = 500) ∧ [D.int .i64 8, D.int .i64 40, D.int .i64 40, D.int .i64 500][x.toNat]? = some (.int .i64 m) := by
    obtain rfl | rfl | rfl | rfl : x = 0 ∨ x = 1 ∨ x = 2 ∨ x = 3 := by omega
    · exact ⟨8, by omega, rfl⟩
    · exact ⟨40, by omega, rfl⟩
    · exact ⟨40, by omega, rfl⟩
    · exact ⟨500, by omega, rfl⟩
  obtain ⟨m, hm, he⟩ := hy
  have c2 := c1 m hm
  (repeat (refine stg_ ?_))
  (refine And.intro rfl ?_; (conv => whnf))
  (repeat (refine stg_ ?_))
  (refine clr_ c0 (by assumption) (by omega) ?_; rintro _ pl2 sd2 ⟨q, rfl, hq0, hq⟩ hl3 hl4 hs2; (conv => whnf))
  (repeat (refine stg_ ?_))
  refine LoopW.go (α := Int × Int × Int × List TLoop) (fun p => [(0, .pB 2 [] 0), (2, .pB 4 [] 0), (3, .pB 5 [] 0), (4, .d (.int .i64 m)), (5, .d (.int .i64 p.2.2.1))]) (fun p => [.gone, .gho k s0 g 4 t, .box (.d (srcR cc p.1 p.2.1)), .keep [(0, .d (.lst (code.map bD)))] (fun _ => cc), .box (.st [.nils]), .box (.st [.own 8 0 p.2.2.2.length]), .gone, .gone, .arr 1 (p.2.2.2.map TLoop.D) true])
    (fun p => pl ≤ p.1 ∧ p.1 ≤ pl + 4 + 200 * p.2.2.2.length ∧ stOK p.1 p.2.1 ∧ 0 ≤ p.2.2.1 ∧ p.2.2.1 + p.2.2.2.length = q ∧ ∀ l ∈ p.2.2.2, 1 ≤ l.fKnots.length ∧ l.fKnots.length ≤ 9) (fun p => p.2.2.1.toNat) (pl2, sd2, q, []) (Weak.trans (Weak.adoptL 5 [] rfl rfl 1 true) (Weak.cov ⟨rfl, rfl, rfl, rfl, rfl, trivial⟩ ⟨trivial, rfl, rfl, rfl, rfl, rfl, trivial, trivial, rfl, trivial⟩ rfl)) ⟨by dsimp only; omega, by dsimp only [List.length_nil]; omega, hs2, by dsimp only; omega, by simp, by simp⟩ ?_
  rintro ⟨pl3, sd3, j, ls⟩ ⟨k1, k2, k3, k4, k5, k6⟩
  dsimp only at k1 k2 k3 k4 k5 k6 ⊢
  have hL : (ls.map TLoop.D).length = ls.length := List.length_map _
  (conv => whnf)
  (repeat (refine stg_ ?_))
  (refine br_ (fun h1 => ?_) (fun h1 => ?_))
  · (repeat ((fail_if_success (with_reducible apply RegD.id)); (refine stg_ ?_)))
    have hap : ∀ l : TLoop, Blk.arr 1 ((ls.map TLoop.D).take ls.length ++ [l.D]) true = Blk.arr 1 ((ls ++ [l]).map TLoop.D) true := fun l => by
      rw [List.take_of_length_le (by omega), List.map_append]; rfl
    refine RegD.cutS (fun e h => ∃ pl' sd', ∃ l : TLoop, pl3 ≤ pl' ∧ pl' ≤ pl3 + 200 ∧ stOK pl' sd' ∧ (1 ≤ l.fKnots.length ∧ l.fKnots.length ≤ 9) ∧ e = [(0, .pB 2 [] 0), (2, .pB 4 [] 0), (3, .pB 5 [] 0), (4, .d (.int .i64 m)), (5, .d (.int .i64 j))] ∧ h = [.gone, .gho k s0 g 4 t, .box (.d (srcR cc pl' sd')), .keep [(0, .d (.lst (code.map bD)))] (fun _ => cc), .box (.st [.nils]), .box (.st [.own 8 0 (ls ++ [l]).length]), .gone, .gone, .arr 1 ((ls ++ [l]).map TLoop.D) true]) trDO (by kernel_rfl) ?_ ?_
    · (conv => whnf)
      (repeat ((fail_if_success (with_reducible apply RegD.id)); (refine stg_ ?_)))
      refine And.intro ?_ ?_ <;> (conv => whnf)
      all_goals (repeat ((fail_if_success (with_reducible apply RegD.id)); (refine stg_ ?_)))
      all_goals ((refine clzr_ c2 (by assumption) (by omega) ?_; rintro v bs pl4 sd4 ⟨ks, hk1, hk2, rfl, rfl⟩ q1 q2 q3 <;> refine ⟨rfl, ?_⟩ <;> (conv => whnf)))
      all_goals (have hLk : (ks.map TKnot.D).length = ks.length := List.length_map _)
      all_goals (repeat (first | ((with_reducible apply ApW.id); (refine ApW.at (by simp only [List.length_cons, List.length_nil]; show _ ≤ 9223372036854775807; omega) (by simp only [List.length_cons, List.length_nil]; show _ * 24 ≤ 140737488355328; omega) ?_; (conv => whnf))) | ((fail_if_success (with_reducible apply RegD.id)); (fail_if_success (with_reducible apply ApW.id)); (refine stg_ ?_))))
      all_goals (refine ⟨_, _, ⟨pl4, sd4, ⟨ks⟩, by omega, by omega, q3, ⟨hk1, hk2⟩, rfl, rfl⟩, ?_⟩)
      all_goals rw [List.length_append]
      all_goals (refine Weak.cov ?_ ?_ ?_)
      all_goals first | (refine ⟨trivial, rfl, rfl, rfl, rfl, rfl, trivial, trivial, hap ⟨ks⟩, trivial⟩) | (focus ((repeat' (first | exact trivial | with_reducible rfl | (refine ⟨?_, ?_⟩) | rfl)); done)) | rfl
    · rintro e h ⟨pl4, sd4, l, q1, q2, q3, q4, rfl, rfl⟩
      (conv => whnf)
      (repeat (refine stg_ ?_))
      refine NextW.go (pl4, sd4, j - 1, ls ++ [l]) covT_ ⟨by dsimp only; omega, by simp; omega, q3, by dsimp only; omega, by simp; omega, ?_⟩ (by dsimp only; omega)
      intro x hx
      rcases List.mem_append.1 hx with hx | hx
      · exact k6 x hx
      · obtain rfl : x = l := by simpa using hx
        exact q4
  · (repeat (refine stg_ ?_))
    refine ⟨_, _, ⟨ls, ⟨by omega, k6⟩, rfl, rfl⟩, ?_, pl3, sd3, _, by omega, by omega, k3, rfl⟩
    refine ⟨⟨[some 8], ⟨by decide, rfl, trivial, trivial⟩, by decide, ⟨rfl, ?_⟩⟩⟩
    (repeat' (first | ((conv => whnf); done) | ((conv => whnf); (first | (exact ⟨by decide, rfl⟩) | (exact ⟨rfl, rfl⟩) | (refine ⟨_, _, rfl, ?_, ?_⟩) | (refine ⟨_, rfl, ?_⟩) | rfl))))
theorem floorDiv_v (n d : Int) (h0 : 0 < d) : PC Try.prog 39 [.d (.int .i64 n), .d (.int .i64 d)] (.d (.int .i64 (n / d))) [] := by
  refine pc_intro ttOk (by kernel_rfl) Try.func39 rfl (by kernel_rfl) (by kernel_rfl) (by kernel_rfl) (fun hw => ?_)
  have hn1 : -9223372036854775808 ≤ n ∧ n ≤ 9223372036854775807 := hw.1
  have hd1 : -9223372036854775808 ≤ d ∧ d ≤ 9223372036854775807 := hw.2.1
  obtain ⟨n1, n2⟩ := hn1
  obtain ⟨d1, d2⟩ := hd1
  obtain ⟨f1, f2, f3, f4, f5⟩ := div_facts h0 n1 n2
  have ht := tdiv_facts (n := n) h0
  have hq : -9223372036854775808 ≤ n.tdiv d ∧ n.tdiv d ≤ 9223372036854775807 := by
    by_cases hm : n.tmod d < 0
    · have := ht.1 hm; have := f5 this.2.2.2; omega
    · have := ht.2 (by omega); omega
  by_cases hm : n.tmod d < 0
  · obtain ⟨t1, t2, t3, t4⟩ := ht.1 hm
    have f5 := f5 t4
    clear ht
    (conv => whnf)
    (repeat' (first | (refine stg_ ?_) | (split <;> (conv => whnf))))
    all_goals first | (exfalso; simp_all; done) | (exfalso; simp_all; omega) | ((refine RetOK.d rfl rfl ?_; conv => whnf); congr 1; omega)
  · obtain ⟨t1, t2⟩ := ht.2 (by omega)
    clear ht f5
    (conv => whnf)
    (repeat' (first | (refine stg_ ?_) | (split <;> (conv => whnf))))
    all_goals first | (exfalso; simp_all; done) | (exfalso; simp_all; omega) | ((refine RetOK.d rfl rfl ?_; conv => whnf); congr 1; omega)
theorem DivRound_v (n d : Int) : PC Try.prog 36 [.d (.int .i64 n), .d (.int .i64 d)] (.d (.int .i64 (divR n d))) [] := by
  refine pc_intro ttOk (by kernel_rfl) Try.func36 rfl (by kernel_rfl) (by kernel_rfl) (by kernel_rfl) (fun hw => ?_)
  have hn1 : -9223372036854775808 ≤ n ∧ n ≤ 9223372036854775807 := hw.1
  have hd1 : -9223372036854775808 ≤ d ∧ d ≤ 9223372036854775807 := hw.2.1
  obtain ⟨n1, n2⟩ := hn1
  obtain ⟨d1, d2⟩ := hd1
  (conv => whnf)
  (split <;> rename_i h1 <;> simp only [decide_eq_true_eq, decide_eq_false_iff_not, Bool.not_eq_true', Bool.not_eq_false', bne_iff_ne, ne_eq, beq_iff_eq, bne_eq_false_iff_eq, beq_eq_false_iff_ne, Decidable.not_not, Nat.not_lt, Nat.not_le, Int.not_lt, Int.not_le, Bool.and_eq_true, Bool.and_eq_false_iff, Bool.or_eq_true, Bool.or_eq_false_iff] at h1 <;> (conv => whnf) <;> (repeat (refine stg_ ?_)))
  · (refine RetOK.d rfl rfl ?_; conv => whnf)
    rw [divR, if_pos h1]
  · obtain ⟨f1, f2, f3, f4, f5⟩ := div_facts h1 n1 n2
    have hR := divR_pos (n := n) h1
    have hm := Int.emod_add_mul_ediv n d
    rw [Int.mul_comm] at hm
    have hw' := wrap_rem h1 d2 n1 n2
    (refine cl_ (floorDiv_v n d h1) ?_)
    refine ⟨_, rfl, ?_⟩
    (conv => whnf)
    refine ⟨n % d, hw', ?_⟩
    (conv => whnf)
    (repeat (refine stg_ ?_))
    have f6 : n % d < d - n % d ∨ (-4611686018427387904 ≤ n / d ∧ n / d ≤ 4611686018427387903) := by
      by_cases hh : 2 ≤ d
      · exact Or.inr (f5 hh)
      · left; omega
    (refine br_ (fun h2 => ?_) (fun h2 => ?_) <;> (repeat (refine stg_ ?_)))
    · (refine RetOK.d rfl rfl ?_; conv => whnf)
      rw [hR, if_pos (by omega)]
    · (refine RetOK.d rfl rfl ?_; conv => whnf)
      rw [hR, if_neg (by omega)]







def pt0 : TPt := ⟨0, 0⟩
def pntB (p : TPt) : Bool := inB p.fX (-262144) 262144 && inB p.fY (-262144) 262144
def loopB (l : TLoop) : Bool := decide (1 ≤ l.fKnots.length) && (decide (l.fKnots.length ≤ 60) && (((l.fKnots[0]?).map (·.fOn)).getD false && l.fKnots.all (fun k => pntB k.fAt)))
def outB (o : TOutline) : Bool := decide (o.fLoops.length ≤ 12) && o.fLoops.all loopB
theorem pnt_in {p : TPt} (h : pntB p = true) : -262144 ≤ p.fX ∧ p.fX ≤ 262144 ∧ -262144 ≤ p.fY ∧ p.fY ≤ 262144 := by
  simp only [pntB, inB, Bool.and_eq_true, decide_eq_true_eq] at h; omega
theorem loop_in {l : TLoop} (h : loopB l = true) : 1 ≤ l.fKnots.length ∧ l.fKnots.length ≤ 60 ∧ ∀ k ∈ l.fKnots, pntB k.fAt = true := by
  simp only [loopB, Bool.and_eq_true, decide_eq_true_eq, List.all_eq_true] at h
  exact ⟨h.1, h.2.1, h.2.2.2⟩
theorem out_in {o : TOutline} (h : outB o = true) : o.fLoops.length ≤ 12 ∧ ∀ l ∈ o.fLoops, loopB l = true := by
  simp only [outB, Bool.and_eq_true, decide_eq_true_eq, List.all_eq_true] at h
  exact h
theorem divR_le {n d c : Int} (hd : 0 < d) (h : n ≤ c * d) : divR n d ≤ c := by
  rw [divR_pos hd]
  have a := Int.emod_nonneg n (show d ≠ 0 by omega)
  have b := Int.emod_lt_of_pos n hd
  have e := Int.emod_add_mul_ediv n d
  have h1 : n / d ≤ c := by
    have := Int.ediv_le_ediv hd h
    rwa [Int.mul_ediv_cancel c (by omega)] at this
  split
  · rcases Int.lt_or_eq_of_le h1 with h2 | h2
    · omega
    · exfalso
      rw [h2, Int.mul_comm] at e
      omega
  · exact h1
theorem le_divR {n d c : Int} (hd : 0 < d) (h : c * d ≤ n) : c ≤ divR n d := by
  rw [divR_pos hd]
  have h1 : c ≤ n / d := (Int.le_ediv_iff_mul_le hd).2 h
  split <;> omega
section
variable {α : Type} (f : α → D) (z : D) (xs : List α)
end
end Go.Proofs.Ytiflbcjabifpmaa