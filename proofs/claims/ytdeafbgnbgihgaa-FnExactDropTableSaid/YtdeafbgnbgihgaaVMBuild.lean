/- The abstract machine: struct literals. Leans on no program. -/
import Derived.Test.YtdeafbgnbgihgaaVMZer
set_option linter.unusedSimpArgs false
set_option linter.unusedVariables false
namespace Go.Proofs.Ytdeafbgnbgihgaa
open Go.RowKit
def fsOK (tt : TT) : List (Nat × Nat) → Nat → Bool
  | [], _ => true
  | (o, f) :: fs, j => Nat.beq o j && (match tt f with | some i => Nat.beq i.size 1 | none => false) && fsOK tt fs (j + 1)
def zsOf : V → List V
  | .st zs => zs
  | _ => []
def ones : List V → Bool
  | [] => true
  | v :: vs => Nat.beq v.size 1 && ones vs
/-- some fields are given, the others are as at first -/
def gapV (e : Env) : List (Nat × Operand) → List V → List V
  | [], zs => zs
  | (i, x) :: ps, zs => gapV e ps (setN zs i (ev e x))
def gapOK (e : Env) (n : Nat) : List (Nat × Operand) → Bool
  | [] => true
  | (i, x) :: ps => Nat.ble (i + 1) n && (ev e x).okc && Nat.beq (ev e x).size 1 && gapOK e n ps
def buildV (tt : TT) (t : Nat) (ps : List (Nat × Operand)) (e : Env) (K : V → Prop) : Prop :=
  match tt t with
  | some { kind := .strct fs, size := sz, zero := zr, .. } => bif inOrd ps 0 && Nat.beq ps.length fs.length && Nat.beq sz fs.length && fsOK tt fs 0 && sizesB 1 (evs e (partOps ps)) then K (.st (evs e (partOps ps))) else
      bif inOrd ps 0 && Nat.ble ps.length fs.length && Nat.beq sz fs.length && fsOK tt fs 0 && sizesB 1 (evs e (partOps ps)) && Nat.beq (zsOf zr).length fs.length && ones (zsOf zr) then K (.st (evs e (partOps ps) ++ (zsOf zr).drop ps.length)) else
      bif Nat.beq sz fs.length && fsOK tt fs 0 && gapOK e fs.length ps && Nat.beq (zsOf zr).length fs.length && ones (zsOf zr) then K (.st (gapV e ps (zsOf zr))) else False
  | _ => False
theorem fill_congr {p q : Nat → Option (Nat × Nat)} : ∀ (ps : List (Nat × Value)) (cs : Array Value), (∀ x ∈ ps, p x.1 = q x.1) → Instr.fill p cs ps = Instr.fill q cs ps
  | [], cs, _ => rfl
  | (i, v) :: ps, cs, H => by
    simp only [Instr.fill]
    rw [H (i, v) (by simp)]
    cases q i with
    | none => rfl
    | some z =>
      obtain ⟨o, n⟩ := z
      dsimp only
      split
      · rfl
      · exact fill_congr ps _ (fun x hx => H x (by simp [hx]))
theorem places_of {P : Program} {tt : TT} (hT : TOk P tt) : ∀ (gs : List Field) (j : Nat), fsOK tt (gs.map fun f => (f.offset, f.type)) j = true →
    gs.mapM (fun f => (P.info? f.type).map fun i => (f.offset, i.size)) = some ((List.range' j gs.length).map fun i => (i, 1))
  | [], j, _ => rfl
  | g :: gs, j, H => by
    simp only [List.map_cons, fsOK, Bool.and_eq_true, nbeq] at H
    obtain ⟨⟨h1, h2⟩, h3⟩ := H
    have ih := places_of hT gs (j + 1) h3
    cases hi : tt g.type with
    | none => rw [hi] at h2; cases h2
    | some i =>
      rw [hi] at h2
      have h2 : i.size = 1 := by simpa [nbeq] using h2
      obtain ⟨fi, d, z, k1, k2, _⟩ := (hT _ _ hi).ex
      simp only [List.mapM_cons, k1, Option.map_some, Option.bind_eq_bind, Option.bind_some, ih, Option.pure_def, List.length_cons, List.range'_succ, List.map_cons, k2, h2, h1]
section
variable {P : Program} {tt : TT} {B : World} {X : List Nat} {N : Nat} {M : MM} {e : Env} {h : List Blk} {a : Act} {w : World}
theorem repCs_drop1 : ∀ (vs : List V) (cs : List Value) (n : Nat), ones vs = true → repCs w M h vs cs → repCs w M h (vs.drop n) (cs.drop n)
  | [], cs, n, _, H => by
    have H : cs = [] := H
    subst H
    simp only [List.drop_nil]; rfl
  | v :: vs, cs, 0, _, H => H
  | v :: vs, cs, n + 1, ho, H => by
    simp only [ones, Bool.and_eq_true, nbeq] at ho
    obtain ⟨c1, c2, rfl, h1, h2⟩ := H
    have hl := repC_len _ _ h1
    rw [ho.1] at hl
    obtain ⟨x, rfl⟩ := List.length_eq_one_iff.1 hl
    exact repCs_drop1 vs c2 n ho.2 h2
theorem repCs_app : ∀ (us : List V) (cs : List Value) (vs : List V) (ds : List Value), repCs w M h us cs → repCs w M h vs ds → repCs w M h (us ++ vs) (cs ++ ds)
  | [], cs, vs, ds, H, H2 => by
    have H : cs = [] := H
    subst H
    exact H2
  | u :: us, cs, vs, ds, H, H2 => by
    obtain ⟨c1, c2, rfl, h1, h2⟩ := H
    exact ⟨c1, c2 ++ ds, List.append_assoc _ _ _, h1, repCs_app us c2 vs ds h2 H2⟩
theorem repCs_set1 : ∀ (zs : List V) (cs : List Value) (i : Nat) (v : V) (c : Value), ones zs = true → repCs w M h zs cs → i < zs.length → repC w M h v [c] → v.size = 1 → repCs w M h (setN zs i v) (cs.set i c) ∧ ones (setN zs i v) = true ∧ (setN zs i v).length = zs.length
  | [], _, _, _, _, _, _, hi, _, _ => by simp at hi
  | u :: zs, cs, i, v, c, ho, H, hi, hv, hs => by
    simp only [ones, Bool.and_eq_true, nbeq] at ho
    obtain ⟨c1, c2, rfl, h1, h2⟩ := H
    have hl := repC_len _ _ h1
    rw [ho.1] at hl
    obtain ⟨x, rfl⟩ := List.length_eq_one_iff.1 hl
    cases i with
    | zero => exact ⟨⟨[c], c2, rfl, hv, h2⟩, by simp [setN, ones, nbeq, hs, ho.2], rfl⟩
    | succ i =>
      obtain ⟨k1, k2, k3⟩ := repCs_set1 zs c2 i v c ho.2 h2 (by simpa using hi) hv hs
      exact ⟨⟨[x], c2.set i c, rfl, h1, k1⟩, by simp [setN, ones, nbeq, ho.1, k2], by simp [setN, k3]⟩
theorem gap_fill (R : Rep B X N M e h a w) (n : Nat) : ∀ (ps : List (Nat × Operand)) (zs : List V) (cs : List Value), (∀ x ∈ partOps ps, cOK x = true) → gapOK e n ps = true → ones zs = true → zs.length = n → cs.length = n → repCs w M h zs cs →
    ∃ cs' : List Value, Instr.fill (fun i => some (i * 1, 1)) cs.toArray (ps.map fun (i, x) => (i, a.eval x)) = some cs'.toArray ∧ repCs w M h (gapV e ps zs) cs'
  | [], zs, cs, _, _, _, _, _, H => ⟨cs, rfl, H⟩
  | (i, x) :: ps, zs, cs, hc, hg, ho, hz, hcl, H => by
    simp only [gapOK, Bool.and_eq_true, nbeq] at hg
    obtain ⟨⟨⟨g1, g2⟩, g3⟩, g4⟩ := hg
    have g1 := Nat.le_of_ble_eq_true g1
    have hx := rep1_cells (rep1_of_rep g2 (ev_rep R.env x (hc x (by simp [partOps]))))
    have hl := repC_len _ _ hx
    rw [g3] at hl
    obtain ⟨c, hcc⟩ := List.length_eq_one_iff.1 hl
    have hca : (a.eval x).cells = #[c] := by rw [← Array.toList_inj, hcc]
    rw [hcc] at hx
    obtain ⟨k1, k2, k3⟩ := repCs_set1 zs cs i (ev e x) c ho H (by omega) hx g3
    obtain ⟨cs', q1, q2⟩ := gap_fill R n ps (setN zs i (ev e x)) (cs.set i c) (fun y hy => hc y (by simp [partOps, hy])) g4 k2 (by omega) (by simp [hcl]) k1
    refine ⟨cs', ?_, q2⟩
    simp only [List.map_cons, Instr.fill, hca]
    rw [if_neg (by simp; omega), ← q1]
    congr 1
    apply Array.ext'
    simp
theorem build_sound (hT : TOk P tt) (R : Rep B X N M e h a w) {t : Nat} {ps : List (Nat × Operand)} (hc : ∀ x ∈ partOps ps, cOK x = true) {K : V → Prop} (H : buildV tt t ps e K) :
    ∃ v cv, K v ∧ (Instr.build t (ps.map fun (i, x) => (i, a.eval x)).toArray).run P w = .ok cv w ∧ rep w M h v cv := by
  unfold buildV at H
  split at H
  · rename_i fs sz by' zr eq0 hti
    obtain ⟨fi, d, z, h1, h2, h3, h4, h5, h6, h7, h8, h9⟩ := (hT t _ hti).ex
    cases d <;> first
      | exact (h6 : False).elim
      | skip
    rename_i gs
    have h6 : gs.toList.map (fun f => (f.offset, f.type)) = fs := h6
    cases hq : (inOrd ps 0 && Nat.beq ps.length fs.length && Nat.beq sz fs.length && fsOK tt fs 0 && sizesB 1 (evs e (partOps ps))) with
    | false =>
      rw [hq] at H
      simp only [cond_false] at H
      cases hq2 : (inOrd ps 0 && Nat.ble ps.length fs.length && Nat.beq sz fs.length && fsOK tt fs 0 && sizesB 1 (evs e (partOps ps)) && Nat.beq (zsOf zr).length fs.length && ones (zsOf zr)) with
      | false =>
        rw [hq2] at H
        simp only [cond_false] at H
        cases hq3 : (Nat.beq sz fs.length && fsOK tt fs 0 && gapOK e fs.length ps && Nat.beq (zsOf zr).length fs.length && ones (zsOf zr)) with
        | false => rw [hq3] at H; exact H.elim
        | true =>
          rw [hq3] at H
          simp only [cond_true] at H
          simp only [Bool.and_eq_true, nbeq] at hq3
          obtain ⟨⟨⟨⟨q3, q4⟩, q5⟩, q6⟩, q7⟩ := hq3
          have hpl := places_of hT gs.toList 0 (by rw [h6]; exact q4)
          have hgl : gs.toList.length = fs.length := by rw [← h6, List.length_map]
          have hz : z.cells.toList.length = fs.length := by rw [Array.length_toList, h8]; exact q3
          have hzr : repCs w M h (zsOf zr) z.cells.toList := by
            have h7 := h7 w M h
            cases zr with
            | st zs =>
              unfold rep1 at h7
              rw [if_pos (show (V.st zs).isAgg = true from rfl)] at h7
              obtain ⟨cs, rfl, k⟩ := h7
              exact k
            | _ =>
              have : z.cells.toList = [] := List.eq_nil_of_length_eq_zero (by rw [hz, ← q6]; rfl)
              rw [this]
              rfl
          obtain ⟨cs', f1, f2⟩ := gap_fill R fs.length ps (zsOf zr) z.cells.toList hc q5 q7 q6 hz hzr
          have hidx : ∀ (ps : List (Nat × Operand)), gapOK e fs.length ps = true → ∀ x ∈ ps.map fun (i, x) => (i, a.eval x), x.1 < fs.length := by
            intro ps
            induction ps with
            | nil => intro _ x hx; simp at hx
            | cons p ps ih =>
              obtain ⟨i, o⟩ := p
              intro hg x hx
              simp only [gapOK, Bool.and_eq_true] at hg
              simp only [List.map_cons] at hx
              rcases List.mem_cons.1 hx with rfl | hx
              · have := Nat.le_of_ble_eq_true hg.1.1.1
                show i < fs.length
                omega
              · exact ih hg.2 x hx
          have hb : P.built t (ps.map fun (i, x) => (i, a.eval x)).toArray.toList = some cs'.toArray := by
            unfold Program.built
            rw [h1, h5]
            dsimp only
            rw [h4, hpl]
            dsimp only
            rw [fill_congr (q := fun i => some (i * 1, 1))]
            · rw [← f1]
            · intro x hx
              have hx : x ∈ ps.map fun (i, x) => (i, a.eval x) := by simpa using hx
              have hx1 := hidx ps q5 x hx
              rw [hgl]
              simp only [List.getElem?_toArray, List.getElem?_map]
              rw [List.getElem?_range' (by omega)]
              simp
          refine ⟨_, _, H, run_build w t _ _ hb, ?_⟩
          show rep1 w M h (.st _) _
          unfold rep1
          rw [if_pos (show (V.st (gapV e ps (zsOf zr))).isAgg = true from rfl)]
          exact ⟨_, rfl, f2⟩
      | true =>
        rw [hq2] at H
        simp only [cond_true] at H
        simp only [Bool.and_eq_true, nbeq] at hq2
        obtain ⟨⟨⟨⟨⟨⟨q1, q2⟩, q3⟩, q4⟩, q5⟩, q6⟩, q7⟩ := hq2
        have q2 : ps.length ≤ fs.length := Nat.le_of_ble_eq_true q2
        obtain ⟨css, c1, c2, c3⟩ := evs_repC R (partOps ps) hc q5
        have hpl := places_of hT gs.toList 0 (by rw [h6]; exact q4)
        have hgl : gs.toList.length = fs.length := by rw [← h6, List.length_map]
        have hz : z.cells.toList.length = fs.length := by rw [Array.length_toList, h8]; exact q3
        have hzr : repCs w M h (zsOf zr) z.cells.toList := by
          have h7 := h7 w M h
          cases zr with
          | st zs =>
            unfold rep1 at h7
            rw [if_pos (show (V.st zs).isAgg = true from rfl)] at h7
            obtain ⟨cs, rfl, k⟩ := h7
            exact k
          | _ =>
            have : z.cells.toList = [] := List.eq_nil_of_length_eq_zero (by rw [hz, ← q6]; rfl)
            rw [this]
            rfl
        have hfill := fill_row (n := 1) ((partOps ps).map a.eval) 0 [] (z.cells.toList.drop ps.length) (z.cells.toList.take ps.length) (by simp) (fun v hv => by
          have : v.cells.toList ∈ css := by rw [← c1]; exact List.mem_map_of_mem hv
          have := c2 _ this
          rw [Array.length_toList] at this
          exact this) (by simp [partOps_len]; rw [Array.length_toList] at hz; omega)
        rw [List.length_map, partOps_len, ← parts_zip ps 0 q1] at hfill
        rw [c1] at hfill
        simp only [List.nil_append, List.take_append_drop] at hfill
        have hb : P.built t (ps.map fun (i, x) => (i, a.eval x)).toArray.toList = some (css.flatten ++ z.cells.toList.drop ps.length).toArray := by
          unfold Program.built
          rw [h1, h5]
          dsimp only
          rw [h4, hpl]
          dsimp only
          rw [fill_congr (q := fun i => some (i * 1, 1))]
          · rw [← hfill]
          · intro x hx
            have hx : x ∈ ps.map fun (i, x) => (i, a.eval x) := by simpa using hx
            rw [parts_zip ps 0 q1] at hx
            have hx1 := (List.of_mem_zip (a := x.1) (b := x.2) hx).1
            simp only [List.mem_range'_1] at hx1
            rw [hgl]
            simp only [List.getElem?_toArray, List.getElem?_map]
            rw [List.getElem?_range' (by omega)]
            simp
        refine ⟨_, _, H, run_build w t _ _ hb, ?_⟩
        show rep1 w M h (.st _) _
        unfold rep1
        rw [if_pos (show (V.st (evs e (partOps ps) ++ (zsOf zr).drop ps.length)).isAgg = true from rfl)]
        exact ⟨_, rfl, repCs_app _ _ _ _ c3 (repCs_drop1 _ _ _ q7 hzr)⟩
    | true =>
      rw [hq] at H
      simp only [Bool.and_eq_true, nbeq] at hq
      obtain ⟨⟨⟨⟨q1, q2⟩, q3⟩, q4⟩, q5⟩ := hq
      obtain ⟨css, c1, c2, c3⟩ := evs_repC R (partOps ps) hc q5
      have hpl := places_of hT gs.toList 0 (by rw [h6]; exact q4)
      have hgl : gs.toList.length = ps.length := by rw [q2, ← h6, List.length_map]
      have hz : z.cells.toList.length = ps.length := by rw [Array.length_toList, h8]; exact q3.trans q2.symm
      have hfill := fill_row (n := 1) ((partOps ps).map a.eval) 0 [] [] z.cells.toList (by simp) (fun v hv => by
        have : v.cells.toList ∈ css := by rw [← c1]; exact List.mem_map_of_mem hv
        have := c2 _ this
        rw [Array.length_toList] at this
        exact this) (by simp [partOps_len, hz])
      rw [List.length_map, partOps_len, ← parts_zip ps 0 q1] at hfill
      rw [c1] at hfill
      simp only [List.nil_append, List.append_nil] at hfill
      have hb : P.built t (ps.map fun (i, x) => (i, a.eval x)).toArray.toList = some css.flatten.toArray := by
        unfold Program.built
        rw [h1, h5]
        dsimp only
        rw [h4, hpl]
        dsimp only
        rw [fill_congr (q := fun i => some (i * 1, 1))]
        · rw [← hfill]
        · intro x hx
          have hx : x ∈ ps.map fun (i, x) => (i, a.eval x) := by simpa using hx
          rw [parts_zip ps 0 q1] at hx
          have hx1 := (List.of_mem_zip (a := x.1) (b := x.2) hx).1
          simp only [List.mem_range'_1] at hx1
          rw [hgl]
          simp only [List.getElem?_toArray, List.getElem?_map]
          rw [List.getElem?_range' (by omega)]
          simp
      refine ⟨_, _, H, run_build w t _ _ hb, ?_⟩
      show rep1 w M h (.st _) _
      unfold rep1
      rw [if_pos (show (V.st (evs e (partOps ps))).isAgg = true from rfl)]
      exact ⟨_, rfl, c3⟩
  · exact H.elim
end
end Go.Proofs.Ytdeafbgnbgihgaa
