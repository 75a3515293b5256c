/- From the machine's contracts to a law's row: an argument that reads as data reads as a datum of the machine. Leans on no program. -/
import Derived.Test.YtdeafbgnbgihgaaVM17
set_option linter.unusedSimpArgs false
set_option linter.unusedVariables false
namespace Go.Proofs.Ytdeafbgnbgihgaa
open Go.RowKit Go.ChangeShapes Go.WideShapes

def RdD (P : Program) (T : TypeId) (n : Nat) (p : D → Prop) : Prop :=
  P.cellsOf T = n ∧ ∀ (H : Type) (enc : TypeId × Value → H) (w : World) (fuel : Nat) (cs : List Value) (x : DataW H × List MemPlace),
    DataW.trod enc P w 0 (fun _ => true) true fuel T cs = some x → ∃ d, p d ∧ d.size = n ∧ repD [] w d cs
theorem inR_wf {k : IntKind} {n : Int} (h : (Lit.int k n).wf = true) : inR k n := by
  have h' : (decide (k.min ≤ n) && decide (n ≤ k.max)) = true := h
  simp only [Bool.and_eq_true, decide_eq_true_eq] at h'
  exact h'
section
variable {P : Program} {T : TypeId}
theorem rd2_int {k : IntKind} (hT : P.underlying T = some (.int k)) (hc : P.cellsOf T = 1) : RdD P T 1 fun d => ∃ n, d = .int k n :=
  ⟨hc, fun H enc w fuel cs x h => by
    obtain ⟨n, rfl, _, hw⟩ := DataW.trod_int hT h
    exact ⟨_, ⟨n, rfl⟩, rfl, rfl, inR_wf hw⟩⟩
theorem rd2_bool (hT : P.underlying T = some .bool) (hc : P.cellsOf T = 1) : RdD P T 1 fun d => ∃ b, d = .bool b :=
  ⟨hc, fun H enc w fuel cs x h => by
    obtain ⟨n, rfl, _⟩ := DataW.trod_bool hT h
    exact ⟨_, ⟨n, rfl⟩, rfl, rfl⟩⟩
theorem rd2_str (hT : P.underlying T = some .string) (hc : P.cellsOf T = 1) : RdD P T 1 fun d => ∃ s, d = .str s :=
  ⟨hc, fun H enc w fuel cs x h => by
    obtain ⟨n, rfl, _, hw⟩ := DataW.trod_string hT h
    exact ⟨_, ⟨n, rfl⟩, rfl, rfl, hw⟩⟩
theorem rd2_imp {n : Nat} {p q : D → Prop} (h : RdD P T n p) (hq : ∀ d, p d → q d) : RdD P T n q :=
  ⟨h.1, fun H enc w fuel cs x ht => by
    obtain ⟨d, h1, h2⟩ := h.2 H enc w fuel cs x ht
    exact ⟨d, hq d h1, h2⟩⟩
theorem rd2_slice {E : TypeId} {n : Nat} {p : D → Prop} (hT : P.underlying T = some (.slice E)) (hc : P.cellsOf T = 1) (hn : 0 < n) (hE : RdD P E n p) : RdD P T 1 fun d => ∃ xs : List D, d = .lst xs ∧ ∀ x ∈ xs, p x :=
  ⟨hc, fun H enc w fuel cs x h => by
    rcases Deep.open_slice hT h with ⟨rfl, _⟩ | ⟨a, len, cap, m, k, Dd, Pl, rfl, _, hl, hm, hmm, _, hel⟩
    · exact ⟨.lst [], ⟨[], rfl, by simp⟩, rfl, none, 0, 0, rfl, Nat.le_refl _, Nat.zero_le _, fun _ => rfl, trivial⟩
    · simp only [if_true] at hmm
      obtain rfl := hmm.symm
      obtain ⟨xs, hxl, hxs⟩ := exists_list (n := len) (p := fun i (x : D) => p x ∧ ∃ b o cs, a = ⟨b, o, none⟩ ∧ b < w.heap.size ∧ CellsAt w b (o + i * n) cs ∧ x.size = n ∧ repD [] w x cs) (fun i hi => by
        obtain ⟨cs', h1, h2⟩ := hel i (by omega)
        obtain ⟨y, hy1, hy2, hy3⟩ := hE.2 _ _ _ _ _ _ h2
        obtain ⟨_, hcl, hat⟩ := World.cells?_some h1
        rw [hE.1] at hcl hat
        have h0 := hat 0 hn
        rw [List.getElem?_eq_getElem (by omega)] at h0
        have hsp := cell_spot h0
        have haa : a = ⟨a.block, a.off, none⟩ := by
          obtain ⟨cs0, h10, h20⟩ := hel 0 (by omega)
          obtain ⟨_, hcl0, hat0⟩ := World.cells?_some h10
          rw [hE.1] at hcl0 hat0
          have h00 := hat0 0 hn
          rw [List.getElem?_eq_getElem (by omega)] at h00
          simpa [Addr.add] using cell_spot h00
        have hcells : CellsAt w a.block (a.off + i * n) cs' := fun j v hj => by
          have hjl : j < cs'.length := (List.getElem?_eq_some_iff.1 hj).1
          have := hat j (by omega)
          rw [hj] at this
          rw [addr_add, haa, addr_add_plain] at this
          simpa [Nat.add_assoc] using this
        refine ⟨y, hy1, a.block, a.off, cs', haa, ?_, hcells, hy2, hy3⟩
        have h1 := hcells 0 cs'[0] (List.getElem?_eq_getElem (by omega))
        have h2 := World.block_lt_of_cell? (w := w) (a := ⟨a.block, a.off + i * n + 0, none⟩) h1
        exact h2)
      refine ⟨.lst xs, ⟨xs, rfl, fun y hy => ?_⟩, rfl, some a, cap, n, by rw [hxl], by omega, hm, (fun h => by cases h), (repDe_get xs 0).2 fun i x hx => ?_⟩
      · obtain ⟨i, hi⟩ := List.getElem?_of_mem hy
        exact (hxs i y hi).1
      · obtain ⟨_, b, o, cs, e, h1, h2, h3, h4⟩ := hxs i x hx
        exact ⟨b, o, cs, by rw [e], by simp, h1, by rw [Nat.zero_add]; exact h2, h3, h4⟩⟩
structure FRd where
  t : TypeId
  n : Nat
  p : D → Prop
def offs : Nat → List FRd → List (Nat × TypeId)
  | _, [] => []
  | o, f :: fs => (o, f.t) :: offs (o + f.n) fs
def all2 : List FRd → List D → Prop
  | [], ds => ds = []
  | f :: fs, ds => ∃ d ds', ds = d :: ds' ∧ f.p d ∧ all2 fs ds'
def sumN : List FRd → Nat
  | [] => 0
  | f :: fs => f.n + sumN fs
def allRd (P : Program) : List FRd → Prop
  | [] => True
  | f :: fs => RdD P f.t f.n f.p ∧ allRd P fs
theorem rd2_struct {fs : Array Field} {ps : List FRd} {n : Nat} (hT : P.underlying T = some (.struct fs)) (hfs : fs.toList.map (fun f => (f.offset, f.type)) = offs 0 ps) (hR : allRd P ps) (hc : P.cellsOf T = n) (hn : sumN ps = n) :
    RdD P T n fun d => ∃ ds, d = .st ds ∧ all2 ps ds :=
  ⟨hc, fun H enc w fuel cs x h => by
    obtain ⟨xs, m, _, _, hl, hxl, hf⟩ := DataW.trod_struct hT h
    have key : ∀ (ps : List FRd) (o i : Nat), (fs.toList.drop i).map (fun f => (f.offset, f.type)) = offs o ps → allRd P ps → ∃ ds, all2 ps ds ∧ D.sizes ds = sumN ps ∧ repDs [] w ds ((cs.drop o).take (sumN ps)) := by
      intro ps
      induction ps with
      | nil => intro o i _ _; exact ⟨[], rfl, rfl, by simp [sumN, repDs]⟩
      | cons f ps ih =>
        intro o i he hr
        cases hd : fs.toList.drop i with
        | nil => rw [hd] at he; simp [offs] at he
        | cons g gs =>
          rw [hd] at he
          simp only [List.map_cons, offs, List.cons.injEq, Prod.mk.injEq] at he
          obtain ⟨⟨e1, e2⟩, e3⟩ := he
          have hgi : fs[i]? = some g := by
            have := congrArg List.head? hd
            rw [List.head?_drop] at this
            simpa using this
          have h1 := hf i g hgi
          have hlt : i < xs.length := by rw [hxl]; exact (Array.getElem?_eq_some_iff.1 hgi).1
          rw [List.getElem?_eq_getElem hlt] at h1
          obtain ⟨hr1, hr2⟩ := hr
          have hg : g.type = f.t := e2
          rw [hg, e1] at h1
          obtain ⟨d, k1, k2, k3⟩ := hr1.2 _ _ _ _ _ _ h1
          rw [hr1.1] at k3
          have hdr : fs.toList.drop (i + 1) = gs := by
            rw [← List.drop_drop, hd]; rfl
          obtain ⟨ds, m1, m2, m3⟩ := ih (o + f.n) (i + 1) (by rw [hdr]; exact e3) hr2
          refine ⟨d :: ds, ⟨d, ds, rfl, k1, m1⟩, by simp only [D.sizes, sumN, k2, m2], (cs.drop o).take f.n, (cs.drop (o + f.n)).take (sumN ps), ?_, k3, m3⟩
          rw [sumN, List.take_add, List.drop_drop]
    obtain ⟨ds, h1, h2, h3⟩ := key ps 0 0 (by simpa using hfs) hR
    refine ⟨.st ds, ⟨ds, rfl, h1⟩, by rw [← hn]; exact h2, ?_⟩
    have : cs = (cs.drop 0).take (sumN ps) := by
      rw [List.drop_zero, List.take_of_length_le (by rw [hl, hc, hn]; exact Nat.le_refl _)]
    rw [this]
    exact h3⟩
end

/-- an argument of type T is a datum that meets p -/
def ArgRd (P : Program) (T : TypeId) (p : D → Prop) : Prop :=
  ∀ (H : Type) (enc : TypeId × Value → H) (w : World) (base : Nat) (v : Value) (d : DataW H) (pl : List MemPlace), Value.okWide P w .any base T v → DataW.Trod enc P w 0 (fun _ => true) true T v d pl →
    ∃ y, p y ∧ rep1 w [none] [.gone] (.d y) v
section
variable {P : Program} {T : TypeId} {n : Nat} {p : D → Prop}
theorem arg_cell (hR : RdD P T n p) (ha : ∀ y, p y → y.agg = false) (hv : ∀ (w : World) base v, Value.okWide P w .any base T v → v.cells.toList = [v]) : ArgRd P T p := fun H enc w base v d pl hok ht => by
  obtain ⟨fuel, hf⟩ := ht
  obtain ⟨y, h1, _, h2⟩ := hR.2 _ _ _ _ _ _ hf
  refine ⟨y, h1, ?_⟩
  rw [hv w base v hok] at h2
  unfold rep1
  rw [if_neg (by show ¬ (y.agg = true); rw [ha y h1]; simp)]
  exact h2
theorem arg_int {k : IntKind} (hT : P.underlying T = some (.int k)) (hR : RdD P T n p) (ha : ∀ y, p y → y.agg = false) : ArgRd P T p := arg_cell hR ha fun w base v h => by
  obtain ⟨m, rfl⟩ := okWide_int hT h
  rfl
theorem arg_str (hT : P.underlying T = some .string) (hR : RdD P T n p) (ha : ∀ y, p y → y.agg = false) : ArgRd P T p := arg_cell hR ha fun w base v h => by
  obtain ⟨m, rfl⟩ := okWide_string hT h
  rfl
theorem arg_sl {E : TypeId} (hT : P.underlying T = some (.slice E)) (hR : RdD P T n p) (ha : ∀ y, p y → y.agg = false) : ArgRd P T p := arg_cell hR ha fun w base v h => by
  obtain ⟨a, l, c, rfl⟩ := okWide_slice hT h
  rfl
theorem arg_st {fs : Array Field} (hT : P.underlying T = some (.struct fs)) (hR : RdD P T n p) (ha : ∀ y, p y → y.agg = true) : ArgRd P T p := fun H enc w base v d pl hok ht => by
  obtain ⟨fuel, hf⟩ := ht
  obtain ⟨y, h1, _, h2⟩ := hR.2 _ _ _ _ _ _ hf
  obtain ⟨a, rfl, _⟩ := okWide_struct hT hok
  refine ⟨y, h1, ?_⟩
  unfold rep1
  rw [if_pos (show (V.d y).isAgg = true from ha y h1)]
  exact ⟨a.toList, by simp, h2⟩
end
def args2 : List (D → Prop) → List D → Prop
  | [], ds => ds = []
  | p :: ps, ds => ∃ d ds', ds = d :: ds' ∧ p d ∧ args2 ps ds'
def argRds (P : Program) : List TypeId → List (D → Prop) → Prop
  | [], ps => ps = []
  | t :: ts, ps => ∃ p ps', ps = p :: ps' ∧ ArgRd P t p ∧ argRds P ts ps'
theorem law_of_pc {P : Program} {f : FuncId} {ts : List TypeId} {ps : List (D → Prop)} (hR : argRds P ts ps) (hpc : ∀ ds, args2 ps ds → PC P f (toVs ds) (.d (.bool true)) []) : LawCalls P f ts := by
  intro H enc W base args ds p hval hA
  have key : ∀ (ts : List TypeId) (ps : List (D → Prop)) (args : List Value) (ds : List (DataW H)) (pl : List MemPlace), argRds P ts ps → (∀ (j : Nat) t v, ts[j]? = some t → args[j]? = some v → Value.okWide P W .any base t v) →
      DataW.TrodAll enc P W 0 (fun _ => true) true ts args ds pl → ∃ ys, args2 ps ys ∧ repT W [none] [.gone] (toVs ys) args := by
    intro ts
    induction ts with
    | nil =>
      intro ps args ds pl hr _ hA
      obtain ⟨rfl, rfl, rfl⟩ := trodAll_nil hA
      cases hr
      exact ⟨[], rfl, rfl⟩
    | cons t ts ih =>
      intro ps args ds pl hr hv hA
      obtain ⟨v, vs, d, ds', p1, q1, rfl, rfl, rfl, h, r⟩ := ChangeShapes.trodAll_cons hA
      obtain ⟨p, ps', rfl, h1, h2⟩ := hr
      obtain ⟨y, y1, y2⟩ := h1 H enc W base v d p1 (hv 0 _ _ rfl rfl) h
      obtain ⟨ys, k1, k2⟩ := ih ps' vs ds' q1 h2 (fun j t v ht hv' => hv (j + 1) t v (by simpa using ht) (by simpa using hv')) r
      exact ⟨y :: ys, ⟨y, ys, rfl, y1, k1⟩, ⟨v, vs, rfl, y2, k2⟩⟩
  obtain ⟨ys, k1, k2⟩ := key ts ps args ds p hR hval hA
  refine ((hpc ys k1).run W [] args (by simp) (by simp) k2).mono ?_
  rintro e w' ⟨cv, M', rfl, hx, _, hr⟩
  exact ⟨by rw [rep_bool.1 hr], hx⟩
end Go.Proofs.Ytdeafbgnbgihgaa
