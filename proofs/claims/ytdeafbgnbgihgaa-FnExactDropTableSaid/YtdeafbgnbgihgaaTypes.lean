/- The data of the program, as Lean structures, and how each lies in memory. Written by a program (wip/tools/gen_types.py). -/
import Derived.Test.YtdeafbgnbgihgaaBase
set_option linter.unusedSimpArgs false
set_option linter.unusedVariables false
namespace Go.Proofs.Ytdeafbgnbgihgaa
open Go.RowKit

structure TPeak where
  fStart : Int
  fTop : Int
  fEnd : Int
def PeakC : Cod TPeak where
  n := 3
  rep _ cs x := cs = [.int .i64 x.fStart, .int .i64 x.fTop, .int .i64 x.fEnd] ∧ I64 x.fStart ∧ I64 x.fTop ∧ I64 x.fEnd
  own _ F cs x := F = [] ∧ cs = [.int .i64 x.fStart, .int .i64 x.fTop, .int .i64 x.fEnd] ∧ I64 x.fStart ∧ I64 x.fTop ∧ I64 x.fEnd
  len := by rintro w cs x ⟨rfl, _⟩; rfl
  keep := fun _ _ _ _ _ h => h
  own_rep := fun _ _ _ _ h => h.2
  own_lt := by rintro w F cs x ⟨rfl, _⟩ b hb; cases hb
  own_keep := fun _ _ _ _ _ _ h => h
theorem reads_Peak {P : Program} {T : TypeId} {q0 q1 q2 : Field} (hT : P.underlying T = some (.struct #[q0, q1, q2])) (hc : P.cellsOf T = 3)
    (k0 : q0.offset = 0) (r0 : Reads P q0.type intC) (k1 : q1.offset = 1) (r1 : Reads P q1.type intC) (k2 : q2.offset = 2) (r2 : Reads P q2.type intC) : Reads P T PeakC := by
  refine ⟨hc, fun H enc w fuel cs x h => ?_⟩
  obtain ⟨hl, hf⟩ := struct_fields hT h
  rw [hc] at hl
  match cs, hl with
  | [c0, c1, c2], _ =>
    obtain ⟨a0, e0⟩ := hf 0 q0 0 intC rfl k0 r0
    obtain ⟨a1, e1⟩ := hf 1 q1 1 intC rfl k1 r1
    obtain ⟨a2, e2⟩ := hf 2 q2 2 intC rfl k2 r2
    obtain ⟨E0, z0⟩ := e0
    cases E0
    obtain ⟨E1, z1⟩ := e1
    cases E1
    obtain ⟨E2, z2⟩ := e2
    cases E2
    exact ⟨⟨a0, a1, a2⟩, rfl, z0, z1, z2⟩

structure TCharRange where
  fFrom : Int
  fCount : Int
  fGlyph : Int
def CharRangeC : Cod TCharRange where
  n := 3
  rep _ cs x := cs = [.int .i64 x.fFrom, .int .i64 x.fCount, .int .i64 x.fGlyph] ∧ I64 x.fFrom ∧ I64 x.fCount ∧ I64 x.fGlyph
  own _ F cs x := F = [] ∧ cs = [.int .i64 x.fFrom, .int .i64 x.fCount, .int .i64 x.fGlyph] ∧ I64 x.fFrom ∧ I64 x.fCount ∧ I64 x.fGlyph
  len := by rintro w cs x ⟨rfl, _⟩; rfl
  keep := fun _ _ _ _ _ h => h
  own_rep := fun _ _ _ _ h => h.2
  own_lt := by rintro w F cs x ⟨rfl, _⟩ b hb; cases hb
  own_keep := fun _ _ _ _ _ _ h => h
theorem reads_CharRange {P : Program} {T : TypeId} {q0 q1 q2 : Field} (hT : P.underlying T = some (.struct #[q0, q1, q2])) (hc : P.cellsOf T = 3)
    (k0 : q0.offset = 0) (r0 : Reads P q0.type intC) (k1 : q1.offset = 1) (r1 : Reads P q1.type intC) (k2 : q2.offset = 2) (r2 : Reads P q2.type intC) : Reads P T CharRangeC := by
  refine ⟨hc, fun H enc w fuel cs x h => ?_⟩
  obtain ⟨hl, hf⟩ := struct_fields hT h
  rw [hc] at hl
  match cs, hl with
  | [c0, c1, c2], _ =>
    obtain ⟨a0, e0⟩ := hf 0 q0 0 intC rfl k0 r0
    obtain ⟨a1, e1⟩ := hf 1 q1 1 intC rfl k1 r1
    obtain ⟨a2, e2⟩ := hf 2 q2 2 intC rfl k2 r2
    obtain ⟨E0, z0⟩ := e0
    cases E0
    obtain ⟨E1, z1⟩ := e1
    cases E1
    obtain ⟨E2, z2⟩ := e2
    cases E2
    exact ⟨⟨a0, a1, a2⟩, rfl, z0, z1, z2⟩

structure TSlot where
  fGlyph : Int
  fX : Int
  fY : Int
  fAdvance : Int
  fFrom : Int
  fLen : Int
def SlotC : Cod TSlot where
  n := 6
  rep _ cs x := cs = [.int .i64 x.fGlyph, .int .i64 x.fX, .int .i64 x.fY, .int .i64 x.fAdvance, .int .i64 x.fFrom, .int .i64 x.fLen] ∧ I64 x.fGlyph ∧ I64 x.fX ∧ I64 x.fY ∧ I64 x.fAdvance ∧ I64 x.fFrom ∧ I64 x.fLen
  own _ F cs x := F = [] ∧ cs = [.int .i64 x.fGlyph, .int .i64 x.fX, .int .i64 x.fY, .int .i64 x.fAdvance, .int .i64 x.fFrom, .int .i64 x.fLen] ∧ I64 x.fGlyph ∧ I64 x.fX ∧ I64 x.fY ∧ I64 x.fAdvance ∧ I64 x.fFrom ∧ I64 x.fLen
  len := by rintro w cs x ⟨rfl, _⟩; rfl
  keep := fun _ _ _ _ _ h => h
  own_rep := fun _ _ _ _ h => h.2
  own_lt := by rintro w F cs x ⟨rfl, _⟩ b hb; cases hb
  own_keep := fun _ _ _ _ _ _ h => h
theorem reads_Slot {P : Program} {T : TypeId} {q0 q1 q2 q3 q4 q5 : Field} (hT : P.underlying T = some (.struct #[q0, q1, q2, q3, q4, q5])) (hc : P.cellsOf T = 6)
    (k0 : q0.offset = 0) (r0 : Reads P q0.type intC) (k1 : q1.offset = 1) (r1 : Reads P q1.type intC) (k2 : q2.offset = 2) (r2 : Reads P q2.type intC) (k3 : q3.offset = 3) (r3 : Reads P q3.type intC) (k4 : q4.offset = 4) (r4 : Reads P q4.type intC) (k5 : q5.offset = 5) (r5 : Reads P q5.type intC) : Reads P T SlotC := by
  refine ⟨hc, fun H enc w fuel cs x h => ?_⟩
  obtain ⟨hl, hf⟩ := struct_fields hT h
  rw [hc] at hl
  match cs, hl with
  | [c0, c1, c2, c3, c4, c5], _ =>
    obtain ⟨a0, e0⟩ := hf 0 q0 0 intC rfl k0 r0
    obtain ⟨a1, e1⟩ := hf 1 q1 1 intC rfl k1 r1
    obtain ⟨a2, e2⟩ := hf 2 q2 2 intC rfl k2 r2
    obtain ⟨a3, e3⟩ := hf 3 q3 3 intC rfl k3 r3
    obtain ⟨a4, e4⟩ := hf 4 q4 4 intC rfl k4 r4
    obtain ⟨a5, e5⟩ := hf 5 q5 5 intC rfl k5 r5
    obtain ⟨E0, z0⟩ := e0
    cases E0
    obtain ⟨E1, z1⟩ := e1
    cases E1
    obtain ⟨E2, z2⟩ := e2
    cases E2
    obtain ⟨E3, z3⟩ := e3
    cases E3
    obtain ⟨E4, z4⟩ := e4
    cases E4
    obtain ⟨E5, z5⟩ := e5
    cases E5
    exact ⟨⟨a0, a1, a2, a3, a4, a5⟩, rfl, z0, z1, z2, z3, z4, z5⟩

structure TTable where
  fTag : ByteArray
  fData : ByteArray
def TableC : Cod TTable where
  n := 2
  rep _ cs x := cs = [.string x.fTag, .string x.fData] ∧ x.fTag.size ≤ maxLen ∧ x.fData.size ≤ maxLen
  own _ F cs x := F = [] ∧ cs = [.string x.fTag, .string x.fData] ∧ x.fTag.size ≤ maxLen ∧ x.fData.size ≤ maxLen
  len := by rintro w cs x ⟨rfl, _⟩; rfl
  keep := fun _ _ _ _ _ h => h
  own_rep := fun _ _ _ _ h => h.2
  own_lt := by rintro w F cs x ⟨rfl, _⟩ b hb; cases hb
  own_keep := fun _ _ _ _ _ _ h => h
theorem reads_Table {P : Program} {T : TypeId} {q0 q1 : Field} (hT : P.underlying T = some (.struct #[q0, q1])) (hc : P.cellsOf T = 2)
    (k0 : q0.offset = 0) (r0 : Reads P q0.type strC) (k1 : q1.offset = 1) (r1 : Reads P q1.type strC) : Reads P T TableC := by
  refine ⟨hc, fun H enc w fuel cs x h => ?_⟩
  obtain ⟨hl, hf⟩ := struct_fields hT h
  rw [hc] at hl
  match cs, hl with
  | [c0, c1], _ =>
    obtain ⟨a0, e0⟩ := hf 0 q0 0 strC rfl k0 r0
    obtain ⟨a1, e1⟩ := hf 1 q1 1 strC rfl k1 r1
    obtain ⟨E0, z0⟩ := e0
    cases E0
    obtain ⟨E1, z1⟩ := e1
    cases E1
    exact ⟨⟨a0, a1⟩, rfl, z0, z1⟩

structure TAxisPoint where
  fFrom : Int
  fTo : Int
def AxisPointC : Cod TAxisPoint where
  n := 2
  rep _ cs x := cs = [.int .i64 x.fFrom, .int .i64 x.fTo] ∧ I64 x.fFrom ∧ I64 x.fTo
  own _ F cs x := F = [] ∧ cs = [.int .i64 x.fFrom, .int .i64 x.fTo] ∧ I64 x.fFrom ∧ I64 x.fTo
  len := by rintro w cs x ⟨rfl, _⟩; rfl
  keep := fun _ _ _ _ _ h => h
  own_rep := fun _ _ _ _ h => h.2
  own_lt := by rintro w F cs x ⟨rfl, _⟩ b hb; cases hb
  own_keep := fun _ _ _ _ _ _ h => h
theorem reads_AxisPoint {P : Program} {T : TypeId} {q0 q1 : Field} (hT : P.underlying T = some (.struct #[q0, q1])) (hc : P.cellsOf T = 2)
    (k0 : q0.offset = 0) (r0 : Reads P q0.type intC) (k1 : q1.offset = 1) (r1 : Reads P q1.type intC) : Reads P T AxisPointC := by
  refine ⟨hc, fun H enc w fuel cs x h => ?_⟩
  obtain ⟨hl, hf⟩ := struct_fields hT h
  rw [hc] at hl
  match cs, hl with
  | [c0, c1], _ =>
    obtain ⟨a0, e0⟩ := hf 0 q0 0 intC rfl k0 r0
    obtain ⟨a1, e1⟩ := hf 1 q1 1 intC rfl k1 r1
    obtain ⟨E0, z0⟩ := e0
    cases E0
    obtain ⟨E1, z1⟩ := e1
    cases E1
    exact ⟨⟨a0, a1⟩, rfl, z0, z1⟩

structure TAxis where
  fName : ByteArray
  fMin : Int
  fDefault : Int
  fMax : Int
  fMap : List TAxisPoint
def AxisC : Cod TAxis where
  n := 5
  rep w cs x := ∃ m4 : Value, cs = [.string x.fName, .int .i64 x.fMin, .int .i64 x.fDefault, .int .i64 x.fMax, m4] ∧ x.fName.size ≤ maxLen ∧ I64 x.fMin ∧ I64 x.fDefault ∧ I64 x.fMax ∧ Sl AxisPointC w m4 x.fMap
  own w F cs x := ∃ m4 : Value, cs = [.string x.fName, .int .i64 x.fMin, .int .i64 x.fDefault, .int .i64 x.fMax, m4] ∧ x.fName.size ≤ maxLen ∧ I64 x.fMin ∧ I64 x.fDefault ∧ I64 x.fMax ∧ OwnS AxisPointC w F m4 x.fMap
  len := by rintro w cs x ⟨m4, rfl, _⟩; rfl
  keep := by rintro w w' cs x hb ⟨m4, rfl, h0, h1, h2, h3, h4⟩; exact ⟨m4, rfl, h0, h1, h2, h3, h4.keep hb⟩
  own_rep := by rintro w F cs x ⟨m4, rfl, h0, h1, h2, h3, h4⟩; exact ⟨m4, rfl, h0, h1, h2, h3, h4.rep⟩
  own_lt := by
    rintro w F cs x ⟨m4, rfl, h0, h1, h2, h3, h4⟩ b hb
    exact h4.lt b hb
  own_keep := by
    rintro w w' F cs x hk ⟨m4, rfl, h0, h1, h2, h3, h4⟩
    exact ⟨m4, rfl, h0, h1, h2, h3, h4.keep (fun b hb => hk b hb)⟩
theorem reads_Axis {P : Program} {T : TypeId} {q0 q1 q2 q3 q4 : Field} (hT : P.underlying T = some (.struct #[q0, q1, q2, q3, q4])) (hc : P.cellsOf T = 5)
    (k0 : q0.offset = 0) (r0 : Reads P q0.type strC) (k1 : q1.offset = 1) (r1 : Reads P q1.type intC) (k2 : q2.offset = 2) (r2 : Reads P q2.type intC) (k3 : q3.offset = 3) (r3 : Reads P q3.type intC) (k4 : q4.offset = 4) (r4 : Reads P q4.type (slC AxisPointC)) : Reads P T AxisC := by
  refine ⟨hc, fun H enc w fuel cs x h => ?_⟩
  obtain ⟨hl, hf⟩ := struct_fields hT h
  rw [hc] at hl
  match cs, hl with
  | [c0, c1, c2, c3, c4], _ =>
    obtain ⟨a0, e0⟩ := hf 0 q0 0 strC rfl k0 r0
    obtain ⟨a1, e1⟩ := hf 1 q1 1 intC rfl k1 r1
    obtain ⟨a2, e2⟩ := hf 2 q2 2 intC rfl k2 r2
    obtain ⟨a3, e3⟩ := hf 3 q3 3 intC rfl k3 r3
    obtain ⟨a4, e4⟩ := hf 4 q4 4 (slC AxisPointC) rfl k4 r4
    obtain ⟨E0, z0⟩ := e0
    cases E0
    obtain ⟨E1, z1⟩ := e1
    cases E1
    obtain ⟨E2, z2⟩ := e2
    cases E2
    obtain ⟨E3, z3⟩ := e3
    cases E3
    obtain ⟨m4, E4, z4⟩ := e4
    cases E4
    exact ⟨⟨a0, a1, a2, a3, a4⟩, _, rfl, z0, z1, z2, z3, z4⟩

structure TPt where
  fX : Int
  fY : Int
def PtC : Cod TPt where
  n := 2
  rep _ cs x := cs = [.int .i64 x.fX, .int .i64 x.fY] ∧ I64 x.fX ∧ I64 x.fY
  own _ F cs x := F = [] ∧ cs = [.int .i64 x.fX, .int .i64 x.fY] ∧ I64 x.fX ∧ I64 x.fY
  len := by rintro w cs x ⟨rfl, _⟩; rfl
  keep := fun _ _ _ _ _ h => h
  own_rep := fun _ _ _ _ h => h.2
  own_lt := by rintro w F cs x ⟨rfl, _⟩ b hb; cases hb
  own_keep := fun _ _ _ _ _ _ h => h
theorem reads_Pt {P : Program} {T : TypeId} {q0 q1 : Field} (hT : P.underlying T = some (.struct #[q0, q1])) (hc : P.cellsOf T = 2)
    (k0 : q0.offset = 0) (r0 : Reads P q0.type intC) (k1 : q1.offset = 1) (r1 : Reads P q1.type intC) : Reads P T PtC := by
  refine ⟨hc, fun H enc w fuel cs x h => ?_⟩
  obtain ⟨hl, hf⟩ := struct_fields hT h
  rw [hc] at hl
  match cs, hl with
  | [c0, c1], _ =>
    obtain ⟨a0, e0⟩ := hf 0 q0 0 intC rfl k0 r0
    obtain ⟨a1, e1⟩ := hf 1 q1 1 intC rfl k1 r1
    obtain ⟨E0, z0⟩ := e0
    cases E0
    obtain ⟨E1, z1⟩ := e1
    cases E1
    exact ⟨⟨a0, a1⟩, rfl, z0, z1⟩

structure TGlyphDelta where
  fGlyph : Int
  fKnots : List Int
  fMoves : List TPt
  fAdvance : Int
def GlyphDeltaC : Cod TGlyphDelta where
  n := 4
  rep w cs x := ∃ m1 m2 : Value, cs = [.int .i64 x.fGlyph, m1, m2, .int .i64 x.fAdvance] ∧ I64 x.fGlyph ∧ Sl intC w m1 x.fKnots ∧ Sl PtC w m2 x.fMoves ∧ I64 x.fAdvance
  own w F cs x := ∃ (m1 m2 : Value) (g1 g2 : List Nat), F = g1 ++ g2 ∧ cs = [.int .i64 x.fGlyph, m1, m2, .int .i64 x.fAdvance] ∧ I64 x.fGlyph ∧ OwnS intC w g1 m1 x.fKnots ∧ OwnS PtC w g2 m2 x.fMoves ∧ I64 x.fAdvance
  len := by rintro w cs x ⟨m1, m2, rfl, _⟩; rfl
  keep := by rintro w w' cs x hb ⟨m1, m2, rfl, h0, h1, h2, h3⟩; exact ⟨m1, m2, rfl, h0, h1.keep hb, h2.keep hb, h3⟩
  own_rep := by rintro w F cs x ⟨m1, m2, g1, g2, rfl, rfl, h0, h1, h2, h3⟩; exact ⟨m1, m2, rfl, h0, h1.rep, h2.rep, h3⟩
  own_lt := by
    rintro w F cs x ⟨m1, m2, g1, g2, rfl, rfl, h0, h1, h2, h3⟩ b hb
    simp only [List.mem_append] at hb
    rcases hb with hb | hb
    · exact h1.lt b hb
    · exact h2.lt b hb
  own_keep := by
    rintro w w' F cs x hk ⟨m1, m2, g1, g2, rfl, rfl, h0, h1, h2, h3⟩
    exact ⟨m1, m2, g1, g2, rfl, rfl, h0, h1.keep (fun b hb => hk b (by simp [hb])), h2.keep (fun b hb => hk b (by simp [hb])), h3⟩
theorem reads_GlyphDelta {P : Program} {T : TypeId} {q0 q1 q2 q3 : Field} (hT : P.underlying T = some (.struct #[q0, q1, q2, q3])) (hc : P.cellsOf T = 4)
    (k0 : q0.offset = 0) (r0 : Reads P q0.type intC) (k1 : q1.offset = 1) (r1 : Reads P q1.type (slC intC)) (k2 : q2.offset = 2) (r2 : Reads P q2.type (slC PtC)) (k3 : q3.offset = 3) (r3 : Reads P q3.type intC) : Reads P T GlyphDeltaC := by
  refine ⟨hc, fun H enc w fuel cs x h => ?_⟩
  obtain ⟨hl, hf⟩ := struct_fields hT h
  rw [hc] at hl
  match cs, hl with
  | [c0, c1, c2, c3], _ =>
    obtain ⟨a0, e0⟩ := hf 0 q0 0 intC rfl k0 r0
    obtain ⟨a1, e1⟩ := hf 1 q1 1 (slC intC) rfl k1 r1
    obtain ⟨a2, e2⟩ := hf 2 q2 2 (slC PtC) rfl k2 r2
    obtain ⟨a3, e3⟩ := hf 3 q3 3 intC rfl k3 r3
    obtain ⟨E0, z0⟩ := e0
    cases E0
    obtain ⟨m1, E1, z1⟩ := e1
    cases E1
    obtain ⟨m2, E2, z2⟩ := e2
    cases E2
    obtain ⟨E3, z3⟩ := e3
    cases E3
    exact ⟨⟨a0, a1, a2, a3⟩, _, _, rfl, z0, z1, z2, z3⟩

structure TMaster where
  fPeaks : List TPeak
  fDeltas : List TGlyphDelta
def MasterC : Cod TMaster where
  n := 2
  rep w cs x := ∃ m0 m1 : Value, cs = [m0, m1] ∧ Sl PeakC w m0 x.fPeaks ∧ Sl GlyphDeltaC w m1 x.fDeltas
  own w F cs x := ∃ (m0 m1 : Value) (g0 g1 : List Nat), F = g0 ++ g1 ∧ cs = [m0, m1] ∧ OwnS PeakC w g0 m0 x.fPeaks ∧ OwnS GlyphDeltaC w g1 m1 x.fDeltas
  len := by rintro w cs x ⟨m0, m1, rfl, _⟩; rfl
  keep := by rintro w w' cs x hb ⟨m0, m1, rfl, h0, h1⟩; exact ⟨m0, m1, rfl, h0.keep hb, h1.keep hb⟩
  own_rep := by rintro w F cs x ⟨m0, m1, g0, g1, rfl, rfl, h0, h1⟩; exact ⟨m0, m1, rfl, h0.rep, h1.rep⟩
  own_lt := by
    rintro w F cs x ⟨m0, m1, g0, g1, rfl, rfl, h0, h1⟩ b hb
    simp only [List.mem_append] at hb
    rcases hb with hb | hb
    · exact h0.lt b hb
    · exact h1.lt b hb
  own_keep := by
    rintro w w' F cs x hk ⟨m0, m1, g0, g1, rfl, rfl, h0, h1⟩
    exact ⟨m0, m1, g0, g1, rfl, rfl, h0.keep (fun b hb => hk b (by simp [hb])), h1.keep (fun b hb => hk b (by simp [hb]))⟩
theorem reads_Master {P : Program} {T : TypeId} {q0 q1 : Field} (hT : P.underlying T = some (.struct #[q0, q1])) (hc : P.cellsOf T = 2)
    (k0 : q0.offset = 0) (r0 : Reads P q0.type (slC PeakC)) (k1 : q1.offset = 1) (r1 : Reads P q1.type (slC GlyphDeltaC)) : Reads P T MasterC := by
  refine ⟨hc, fun H enc w fuel cs x h => ?_⟩
  obtain ⟨hl, hf⟩ := struct_fields hT h
  rw [hc] at hl
  match cs, hl with
  | [c0, c1], _ =>
    obtain ⟨a0, e0⟩ := hf 0 q0 0 (slC PeakC) rfl k0 r0
    obtain ⟨a1, e1⟩ := hf 1 q1 1 (slC GlyphDeltaC) rfl k1 r1
    obtain ⟨m0, E0, z0⟩ := e0
    cases E0
    obtain ⟨m1, E1, z1⟩ := e1
    cases E1
    exact ⟨⟨a0, a1⟩, _, _, rfl, z0, z1⟩

structure TVariation where
  fAxes : List TAxis
  fMasters : List TMaster
def VariationC : Cod TVariation where
  n := 2
  rep w cs x := ∃ m0 m1 : Value, cs = [m0, m1] ∧ Sl AxisC w m0 x.fAxes ∧ Sl MasterC w m1 x.fMasters
  own w F cs x := ∃ (m0 m1 : Value) (g0 g1 : List Nat), F = g0 ++ g1 ∧ cs = [m0, m1] ∧ OwnS AxisC w g0 m0 x.fAxes ∧ OwnS MasterC w g1 m1 x.fMasters
  len := by rintro w cs x ⟨m0, m1, rfl, _⟩; rfl
  keep := by rintro w w' cs x hb ⟨m0, m1, rfl, h0, h1⟩; exact ⟨m0, m1, rfl, h0.keep hb, h1.keep hb⟩
  own_rep := by rintro w F cs x ⟨m0, m1, g0, g1, rfl, rfl, h0, h1⟩; exact ⟨m0, m1, rfl, h0.rep, h1.rep⟩
  own_lt := by
    rintro w F cs x ⟨m0, m1, g0, g1, rfl, rfl, h0, h1⟩ b hb
    simp only [List.mem_append] at hb
    rcases hb with hb | hb
    · exact h0.lt b hb
    · exact h1.lt b hb
  own_keep := by
    rintro w w' F cs x hk ⟨m0, m1, g0, g1, rfl, rfl, h0, h1⟩
    exact ⟨m0, m1, g0, g1, rfl, rfl, h0.keep (fun b hb => hk b (by simp [hb])), h1.keep (fun b hb => hk b (by simp [hb]))⟩
theorem reads_Variation {P : Program} {T : TypeId} {q0 q1 : Field} (hT : P.underlying T = some (.struct #[q0, q1])) (hc : P.cellsOf T = 2)
    (k0 : q0.offset = 0) (r0 : Reads P q0.type (slC AxisC)) (k1 : q1.offset = 1) (r1 : Reads P q1.type (slC MasterC)) : Reads P T VariationC := by
  refine ⟨hc, fun H enc w fuel cs x h => ?_⟩
  obtain ⟨hl, hf⟩ := struct_fields hT h
  rw [hc] at hl
  match cs, hl with
  | [c0, c1], _ =>
    obtain ⟨a0, e0⟩ := hf 0 q0 0 (slC AxisC) rfl k0 r0
    obtain ⟨a1, e1⟩ := hf 1 q1 1 (slC MasterC) rfl k1 r1
    obtain ⟨m0, E0, z0⟩ := e0
    cases E0
    obtain ⟨m1, E1, z1⟩ := e1
    cases E1
    exact ⟨⟨a0, a1⟩, _, _, rfl, z0, z1⟩

structure TKnot where
  fAt : TPt
  fOn : Bool
def KnotC : Cod TKnot where
  n := 3
  rep _ cs x := cs = [.int .i64 x.fAt.fX, .int .i64 x.fAt.fY, .bool x.fOn] ∧ I64 x.fAt.fX ∧ I64 x.fAt.fY
  own _ F cs x := F = [] ∧ cs = [.int .i64 x.fAt.fX, .int .i64 x.fAt.fY, .bool x.fOn] ∧ I64 x.fAt.fX ∧ I64 x.fAt.fY
  len := by rintro w cs x ⟨rfl, _⟩; rfl
  keep := fun _ _ _ _ _ h => h
  own_rep := fun _ _ _ _ h => h.2
  own_lt := by rintro w F cs x ⟨rfl, _⟩ b hb; cases hb
  own_keep := fun _ _ _ _ _ _ h => h
theorem reads_Knot {P : Program} {T : TypeId} {q0 q1 : Field} (hT : P.underlying T = some (.struct #[q0, q1])) (hc : P.cellsOf T = 3)
    (k0 : q0.offset = 0) (r0 : Reads P q0.type PtC) (k1 : q1.offset = 2) (r1 : Reads P q1.type boolC) : Reads P T KnotC := by
  refine ⟨hc, fun H enc w fuel cs x h => ?_⟩
  obtain ⟨hl, hf⟩ := struct_fields hT h
  rw [hc] at hl
  match cs, hl with
  | [c0, c1, c2], _ =>
    obtain ⟨a0, e0⟩ := hf 0 q0 0 PtC rfl k0 r0
    obtain ⟨a1, e1⟩ := hf 1 q1 2 boolC rfl k1 r1
    obtain ⟨E0, z0, z1⟩ := e0
    cases E0
    have E1 := e1
    cases E1
    exact ⟨⟨a0, a1⟩, rfl, z0, z1⟩

structure TLoop where
  fKnots : List TKnot
def LoopC : Cod TLoop where
  n := 1
  rep w cs x := ∃ m0 : Value, cs = [m0] ∧ Sl KnotC w m0 x.fKnots
  own w F cs x := ∃ m0 : Value, cs = [m0] ∧ OwnS KnotC w F m0 x.fKnots
  len := by rintro w cs x ⟨m0, rfl, _⟩; rfl
  keep := by rintro w w' cs x hb ⟨m0, rfl, h0⟩; exact ⟨m0, rfl, h0.keep hb⟩
  own_rep := by rintro w F cs x ⟨m0, rfl, h0⟩; exact ⟨m0, rfl, h0.rep⟩
  own_lt := by
    rintro w F cs x ⟨m0, rfl, h0⟩ b hb
    exact h0.lt b hb
  own_keep := by
    rintro w w' F cs x hk ⟨m0, rfl, h0⟩
    exact ⟨m0, rfl, h0.keep (fun b hb => hk b hb)⟩
theorem reads_Loop {P : Program} {T : TypeId} {q0 : Field} (hT : P.underlying T = some (.struct #[q0])) (hc : P.cellsOf T = 1)
    (k0 : q0.offset = 0) (r0 : Reads P q0.type (slC KnotC)) : Reads P T LoopC := by
  refine ⟨hc, fun H enc w fuel cs x h => ?_⟩
  obtain ⟨hl, hf⟩ := struct_fields hT h
  rw [hc] at hl
  match cs, hl with
  | [c0], _ =>
    obtain ⟨a0, e0⟩ := hf 0 q0 0 (slC KnotC) rfl k0 r0
    obtain ⟨m0, E0, z0⟩ := e0
    cases E0
    exact ⟨⟨a0⟩, _, rfl, z0⟩

structure TOutline where
  fLoops : List TLoop
def OutlineC : Cod TOutline where
  n := 1
  rep w cs x := ∃ m0 : Value, cs = [m0] ∧ Sl LoopC w m0 x.fLoops
  own w F cs x := ∃ m0 : Value, cs = [m0] ∧ OwnS LoopC w F m0 x.fLoops
  len := by rintro w cs x ⟨m0, rfl, _⟩; rfl
  keep := by rintro w w' cs x hb ⟨m0, rfl, h0⟩; exact ⟨m0, rfl, h0.keep hb⟩
  own_rep := by rintro w F cs x ⟨m0, rfl, h0⟩; exact ⟨m0, rfl, h0.rep⟩
  own_lt := by
    rintro w F cs x ⟨m0, rfl, h0⟩ b hb
    exact h0.lt b hb
  own_keep := by
    rintro w w' F cs x hk ⟨m0, rfl, h0⟩
    exact ⟨m0, rfl, h0.keep (fun b hb => hk b hb)⟩
theorem reads_Outline {P : Program} {T : TypeId} {q0 : Field} (hT : P.underlying T = some (.struct #[q0])) (hc : P.cellsOf T = 1)
    (k0 : q0.offset = 0) (r0 : Reads P q0.type (slC LoopC)) : Reads P T OutlineC := by
  refine ⟨hc, fun H enc w fuel cs x h => ?_⟩
  obtain ⟨hl, hf⟩ := struct_fields hT h
  rw [hc] at hl
  match cs, hl with
  | [c0], _ =>
    obtain ⟨a0, e0⟩ := hf 0 q0 0 (slC LoopC) rfl k0 r0
    obtain ⟨m0, E0, z0⟩ := e0
    cases E0
    exact ⟨⟨a0⟩, _, rfl, z0⟩

structure TPart where
  fGlyph : Int
  fMove : TPt
def PartC : Cod TPart where
  n := 3
  rep _ cs x := cs = [.int .i64 x.fGlyph, .int .i64 x.fMove.fX, .int .i64 x.fMove.fY] ∧ I64 x.fGlyph ∧ I64 x.fMove.fX ∧ I64 x.fMove.fY
  own _ F cs x := F = [] ∧ cs = [.int .i64 x.fGlyph, .int .i64 x.fMove.fX, .int .i64 x.fMove.fY] ∧ I64 x.fGlyph ∧ I64 x.fMove.fX ∧ I64 x.fMove.fY
  len := by rintro w cs x ⟨rfl, _⟩; rfl
  keep := fun _ _ _ _ _ h => h
  own_rep := fun _ _ _ _ h => h.2
  own_lt := by rintro w F cs x ⟨rfl, _⟩ b hb; cases hb
  own_keep := fun _ _ _ _ _ _ h => h
theorem reads_Part {P : Program} {T : TypeId} {q0 q1 : Field} (hT : P.underlying T = some (.struct #[q0, q1])) (hc : P.cellsOf T = 3)
    (k0 : q0.offset = 0) (r0 : Reads P q0.type intC) (k1 : q1.offset = 1) (r1 : Reads P q1.type PtC) : Reads P T PartC := by
  refine ⟨hc, fun H enc w fuel cs x h => ?_⟩
  obtain ⟨hl, hf⟩ := struct_fields hT h
  rw [hc] at hl
  match cs, hl with
  | [c0, c1, c2], _ =>
    obtain ⟨a0, e0⟩ := hf 0 q0 0 intC rfl k0 r0
    obtain ⟨a1, e1⟩ := hf 1 q1 1 PtC rfl k1 r1
    obtain ⟨E0, z0⟩ := e0
    cases E0
    obtain ⟨E1, z1, z2⟩ := e1
    cases E1
    exact ⟨⟨a0, a1⟩, rfl, z0, z1, z2⟩

structure TAnchor where
  fName : ByteArray
  fAt : TPt
def AnchorC : Cod TAnchor where
  n := 3
  rep _ cs x := cs = [.string x.fName, .int .i64 x.fAt.fX, .int .i64 x.fAt.fY] ∧ x.fName.size ≤ maxLen ∧ I64 x.fAt.fX ∧ I64 x.fAt.fY
  own _ F cs x := F = [] ∧ cs = [.string x.fName, .int .i64 x.fAt.fX, .int .i64 x.fAt.fY] ∧ x.fName.size ≤ maxLen ∧ I64 x.fAt.fX ∧ I64 x.fAt.fY
  len := by rintro w cs x ⟨rfl, _⟩; rfl
  keep := fun _ _ _ _ _ h => h
  own_rep := fun _ _ _ _ h => h.2
  own_lt := by rintro w F cs x ⟨rfl, _⟩ b hb; cases hb
  own_keep := fun _ _ _ _ _ _ h => h
theorem reads_Anchor {P : Program} {T : TypeId} {q0 q1 : Field} (hT : P.underlying T = some (.struct #[q0, q1])) (hc : P.cellsOf T = 3)
    (k0 : q0.offset = 0) (r0 : Reads P q0.type strC) (k1 : q1.offset = 1) (r1 : Reads P q1.type PtC) : Reads P T AnchorC := by
  refine ⟨hc, fun H enc w fuel cs x h => ?_⟩
  obtain ⟨hl, hf⟩ := struct_fields hT h
  rw [hc] at hl
  match cs, hl with
  | [c0, c1, c2], _ =>
    obtain ⟨a0, e0⟩ := hf 0 q0 0 strC rfl k0 r0
    obtain ⟨a1, e1⟩ := hf 1 q1 1 PtC rfl k1 r1
    obtain ⟨E0, z0⟩ := e0
    cases E0
    obtain ⟨E1, z1, z2⟩ := e1
    cases E1
    exact ⟨⟨a0, a1⟩, rfl, z0, z1, z2⟩

structure TGlyph where
  fName : ByteArray
  fCode : Int
  fAdvance : Int
  fOutline : TOutline
  fParts : List TPart
  fAnchors : List TAnchor
  fHints : ByteArray
def GlyphC : Cod TGlyph where
  n := 7
  rep w cs x := ∃ m3 m4 m5 : Value, cs = [.string x.fName, .int .i64 x.fCode, .int .i64 x.fAdvance, m3, m4, m5, .string x.fHints] ∧ x.fName.size ≤ maxLen ∧ I64 x.fCode ∧ I64 x.fAdvance ∧ Sl LoopC w m3 x.fOutline.fLoops ∧ Sl PartC w m4 x.fParts ∧ Sl AnchorC w m5 x.fAnchors ∧ x.fHints.size ≤ maxLen
  own w F cs x := ∃ (m3 m4 m5 : Value) (g3 g4 g5 : List Nat), F = g3 ++ g4 ++ g5 ∧ cs = [.string x.fName, .int .i64 x.fCode, .int .i64 x.fAdvance, m3, m4, m5, .string x.fHints] ∧ x.fName.size ≤ maxLen ∧ I64 x.fCode ∧ I64 x.fAdvance ∧ OwnS LoopC w g3 m3 x.fOutline.fLoops ∧ OwnS PartC w g4 m4 x.fParts ∧ OwnS AnchorC w g5 m5 x.fAnchors ∧ x.fHints.size ≤ maxLen
  len := by rintro w cs x ⟨m3, m4, m5, rfl, _⟩; rfl
  keep := by rintro w w' cs x hb ⟨m3, m4, m5, rfl, h0, h1, h2, h3, h4, h5, h6⟩; exact ⟨m3, m4, m5, rfl, h0, h1, h2, h3.keep hb, h4.keep hb, h5.keep hb, h6⟩
  own_rep := by rintro w F cs x ⟨m3, m4, m5, g3, g4, g5, rfl, rfl, h0, h1, h2, h3, h4, h5, h6⟩; exact ⟨m3, m4, m5, rfl, h0, h1, h2, h3.rep, h4.rep, h5.rep, h6⟩
  own_lt := by
    rintro w F cs x ⟨m3, m4, m5, g3, g4, g5, rfl, rfl, h0, h1, h2, h3, h4, h5, h6⟩ b hb
    simp only [List.mem_append] at hb
    rcases hb with (hb | hb) | hb
    · exact h3.lt b hb
    · exact h4.lt b hb
    · exact h5.lt b hb
  own_keep := by
    rintro w w' F cs x hk ⟨m3, m4, m5, g3, g4, g5, rfl, rfl, h0, h1, h2, h3, h4, h5, h6⟩
    exact ⟨m3, m4, m5, g3, g4, g5, rfl, rfl, h0, h1, h2, h3.keep (fun b hb => hk b (by simp [hb])), h4.keep (fun b hb => hk b (by simp [hb])), h5.keep (fun b hb => hk b (by simp [hb])), h6⟩
theorem reads_Glyph {P : Program} {T : TypeId} {q0 q1 q2 q3 q4 q5 q6 : Field} (hT : P.underlying T = some (.struct #[q0, q1, q2, q3, q4, q5, q6])) (hc : P.cellsOf T = 7)
    (k0 : q0.offset = 0) (r0 : Reads P q0.type strC) (k1 : q1.offset = 1) (r1 : Reads P q1.type intC) (k2 : q2.offset = 2) (r2 : Reads P q2.type intC) (k3 : q3.offset = 3) (r3 : Reads P q3.type OutlineC) (k4 : q4.offset = 4) (r4 : Reads P q4.type (slC PartC)) (k5 : q5.offset = 5) (r5 : Reads P q5.type (slC AnchorC)) (k6 : q6.offset = 6) (r6 : Reads P q6.type strC) : Reads P T GlyphC := by
  refine ⟨hc, fun H enc w fuel cs x h => ?_⟩
  obtain ⟨hl, hf⟩ := struct_fields hT h
  rw [hc] at hl
  match cs, hl with
  | [c0, c1, c2, c3, c4, c5, c6], _ =>
    obtain ⟨a0, e0⟩ := hf 0 q0 0 strC rfl k0 r0
    obtain ⟨a1, e1⟩ := hf 1 q1 1 intC rfl k1 r1
    obtain ⟨a2, e2⟩ := hf 2 q2 2 intC rfl k2 r2
    obtain ⟨a3, e3⟩ := hf 3 q3 3 OutlineC rfl k3 r3
    obtain ⟨a4, e4⟩ := hf 4 q4 4 (slC PartC) rfl k4 r4
    obtain ⟨a5, e5⟩ := hf 5 q5 5 (slC AnchorC) rfl k5 r5
    obtain ⟨a6, e6⟩ := hf 6 q6 6 strC rfl k6 r6
    obtain ⟨E0, z0⟩ := e0
    cases E0
    obtain ⟨E1, z1⟩ := e1
    cases E1
    obtain ⟨E2, z2⟩ := e2
    cases E2
    obtain ⟨m3, E3, z3⟩ := e3
    cases E3
    obtain ⟨m4, E4, z4⟩ := e4
    cases E4
    obtain ⟨m5, E5, z5⟩ := e5
    cases E5
    obtain ⟨E6, z6⟩ := e6
    cases E6
    exact ⟨⟨a0, a1, a2, a3, a4, a5, a6⟩, _, _, _, rfl, z0, z1, z2, z3, z4, z5, z6⟩

structure TGlyphSet where
  fUnit : Int
  fGlyphs : List TGlyph
def GlyphSetC : Cod TGlyphSet where
  n := 2
  rep w cs x := ∃ m1 : Value, cs = [.int .i64 x.fUnit, m1] ∧ I64 x.fUnit ∧ Sl GlyphC w m1 x.fGlyphs
  own w F cs x := ∃ m1 : Value, cs = [.int .i64 x.fUnit, m1] ∧ I64 x.fUnit ∧ OwnS GlyphC w F m1 x.fGlyphs
  len := by rintro w cs x ⟨m1, rfl, _⟩; rfl
  keep := by rintro w w' cs x hb ⟨m1, rfl, h0, h1⟩; exact ⟨m1, rfl, h0, h1.keep hb⟩
  own_rep := by rintro w F cs x ⟨m1, rfl, h0, h1⟩; exact ⟨m1, rfl, h0, h1.rep⟩
  own_lt := by
    rintro w F cs x ⟨m1, rfl, h0, h1⟩ b hb
    exact h1.lt b hb
  own_keep := by
    rintro w w' F cs x hk ⟨m1, rfl, h0, h1⟩
    exact ⟨m1, rfl, h0, h1.keep (fun b hb => hk b hb)⟩
theorem reads_GlyphSet {P : Program} {T : TypeId} {q0 q1 : Field} (hT : P.underlying T = some (.struct #[q0, q1])) (hc : P.cellsOf T = 2)
    (k0 : q0.offset = 0) (r0 : Reads P q0.type intC) (k1 : q1.offset = 1) (r1 : Reads P q1.type (slC GlyphC)) : Reads P T GlyphSetC := by
  refine ⟨hc, fun H enc w fuel cs x h => ?_⟩
  obtain ⟨hl, hf⟩ := struct_fields hT h
  rw [hc] at hl
  match cs, hl with
  | [c0, c1], _ =>
    obtain ⟨a0, e0⟩ := hf 0 q0 0 intC rfl k0 r0
    obtain ⟨a1, e1⟩ := hf 1 q1 1 (slC GlyphC) rfl k1 r1
    obtain ⟨E0, z0⟩ := e0
    cases E0
    obtain ⟨m1, E1, z1⟩ := e1
    cases E1
    exact ⟨⟨a0, a1⟩, _, rfl, z0, z1⟩

structure TRule where
  fBefore : List (List Int)
  fInput : List (List Int)
  fAfter : List (List Int)
  fOutput : List Int
def RuleC : Cod TRule where
  n := 4
  rep w cs x := ∃ m0 m1 m2 m3 : Value, cs = [m0, m1, m2, m3] ∧ Sl (slC intC) w m0 x.fBefore ∧ Sl (slC intC) w m1 x.fInput ∧ Sl (slC intC) w m2 x.fAfter ∧ Sl intC w m3 x.fOutput
  own w F cs x := ∃ (m0 m1 m2 m3 : Value) (g0 g1 g2 g3 : List Nat), F = g0 ++ g1 ++ g2 ++ g3 ∧ cs = [m0, m1, m2, m3] ∧ OwnS (slC intC) w g0 m0 x.fBefore ∧ OwnS (slC intC) w g1 m1 x.fInput ∧ OwnS (slC intC) w g2 m2 x.fAfter ∧ OwnS intC w g3 m3 x.fOutput
  len := by rintro w cs x ⟨m0, m1, m2, m3, rfl, _⟩; rfl
  keep := by rintro w w' cs x hb ⟨m0, m1, m2, m3, rfl, h0, h1, h2, h3⟩; exact ⟨m0, m1, m2, m3, rfl, h0.keep hb, h1.keep hb, h2.keep hb, h3.keep hb⟩
  own_rep := by rintro w F cs x ⟨m0, m1, m2, m3, g0, g1, g2, g3, rfl, rfl, h0, h1, h2, h3⟩; exact ⟨m0, m1, m2, m3, rfl, h0.rep, h1.rep, h2.rep, h3.rep⟩
  own_lt := by
    rintro w F cs x ⟨m0, m1, m2, m3, g0, g1, g2, g3, rfl, rfl, h0, h1, h2, h3⟩ b hb
    simp only [List.mem_append] at hb
    rcases hb with ((hb | hb) | hb) | hb
    · exact h0.lt b hb
    · exact h1.lt b hb
    · exact h2.lt b hb
    · exact h3.lt b hb
  own_keep := by
    rintro w w' F cs x hk ⟨m0, m1, m2, m3, g0, g1, g2, g3, rfl, rfl, h0, h1, h2, h3⟩
    exact ⟨m0, m1, m2, m3, g0, g1, g2, g3, rfl, rfl, h0.keep (fun b hb => hk b (by simp [hb])), h1.keep (fun b hb => hk b (by simp [hb])), h2.keep (fun b hb => hk b (by simp [hb])), h3.keep (fun b hb => hk b (by simp [hb]))⟩
theorem reads_Rule {P : Program} {T : TypeId} {q0 q1 q2 q3 : Field} (hT : P.underlying T = some (.struct #[q0, q1, q2, q3])) (hc : P.cellsOf T = 4)
    (k0 : q0.offset = 0) (r0 : Reads P q0.type (slC (slC intC))) (k1 : q1.offset = 1) (r1 : Reads P q1.type (slC (slC intC))) (k2 : q2.offset = 2) (r2 : Reads P q2.type (slC (slC intC))) (k3 : q3.offset = 3) (r3 : Reads P q3.type (slC intC)) : Reads P T RuleC := by
  refine ⟨hc, fun H enc w fuel cs x h => ?_⟩
  obtain ⟨hl, hf⟩ := struct_fields hT h
  rw [hc] at hl
  match cs, hl with
  | [c0, c1, c2, c3], _ =>
    obtain ⟨a0, e0⟩ := hf 0 q0 0 (slC (slC intC)) rfl k0 r0
    obtain ⟨a1, e1⟩ := hf 1 q1 1 (slC (slC intC)) rfl k1 r1
    obtain ⟨a2, e2⟩ := hf 2 q2 2 (slC (slC intC)) rfl k2 r2
    obtain ⟨a3, e3⟩ := hf 3 q3 3 (slC intC) rfl k3 r3
    obtain ⟨m0, E0, z0⟩ := e0
    cases E0
    obtain ⟨m1, E1, z1⟩ := e1
    cases E1
    obtain ⟨m2, E2, z2⟩ := e2
    cases E2
    obtain ⟨m3, E3, z3⟩ := e3
    cases E3
    exact ⟨⟨a0, a1, a2, a3⟩, _, _, _, _, rfl, z0, z1, z2, z3⟩

structure TLookup where
  fName : ByteArray
  fRules : List TRule
def LookupC : Cod TLookup where
  n := 2
  rep w cs x := ∃ m1 : Value, cs = [.string x.fName, m1] ∧ x.fName.size ≤ maxLen ∧ Sl RuleC w m1 x.fRules
  own w F cs x := ∃ m1 : Value, cs = [.string x.fName, m1] ∧ x.fName.size ≤ maxLen ∧ OwnS RuleC w F m1 x.fRules
  len := by rintro w cs x ⟨m1, rfl, _⟩; rfl
  keep := by rintro w w' cs x hb ⟨m1, rfl, h0, h1⟩; exact ⟨m1, rfl, h0, h1.keep hb⟩
  own_rep := by rintro w F cs x ⟨m1, rfl, h0, h1⟩; exact ⟨m1, rfl, h0, h1.rep⟩
  own_lt := by
    rintro w F cs x ⟨m1, rfl, h0, h1⟩ b hb
    exact h1.lt b hb
  own_keep := by
    rintro w w' F cs x hk ⟨m1, rfl, h0, h1⟩
    exact ⟨m1, rfl, h0, h1.keep (fun b hb => hk b hb)⟩
theorem reads_Lookup {P : Program} {T : TypeId} {q0 q1 : Field} (hT : P.underlying T = some (.struct #[q0, q1])) (hc : P.cellsOf T = 2)
    (k0 : q0.offset = 0) (r0 : Reads P q0.type strC) (k1 : q1.offset = 1) (r1 : Reads P q1.type (slC RuleC)) : Reads P T LookupC := by
  refine ⟨hc, fun H enc w fuel cs x h => ?_⟩
  obtain ⟨hl, hf⟩ := struct_fields hT h
  rw [hc] at hl
  match cs, hl with
  | [c0, c1], _ =>
    obtain ⟨a0, e0⟩ := hf 0 q0 0 strC rfl k0 r0
    obtain ⟨a1, e1⟩ := hf 1 q1 1 (slC RuleC) rfl k1 r1
    obtain ⟨E0, z0⟩ := e0
    cases E0
    obtain ⟨m1, E1, z1⟩ := e1
    cases E1
    exact ⟨⟨a0, a1⟩, _, rfl, z0, z1⟩

structure TKern where
  fLeft : List Int
  fRight : List Int
  fValue : Int
def KernC : Cod TKern where
  n := 3
  rep w cs x := ∃ m0 m1 : Value, cs = [m0, m1, .int .i64 x.fValue] ∧ Sl intC w m0 x.fLeft ∧ Sl intC w m1 x.fRight ∧ I64 x.fValue
  own w F cs x := ∃ (m0 m1 : Value) (g0 g1 : List Nat), F = g0 ++ g1 ∧ cs = [m0, m1, .int .i64 x.fValue] ∧ OwnS intC w g0 m0 x.fLeft ∧ OwnS intC w g1 m1 x.fRight ∧ I64 x.fValue
  len := by rintro w cs x ⟨m0, m1, rfl, _⟩; rfl
  keep := by rintro w w' cs x hb ⟨m0, m1, rfl, h0, h1, h2⟩; exact ⟨m0, m1, rfl, h0.keep hb, h1.keep hb, h2⟩
  own_rep := by rintro w F cs x ⟨m0, m1, g0, g1, rfl, rfl, h0, h1, h2⟩; exact ⟨m0, m1, rfl, h0.rep, h1.rep, h2⟩
  own_lt := by
    rintro w F cs x ⟨m0, m1, g0, g1, rfl, rfl, h0, h1, h2⟩ b hb
    simp only [List.mem_append] at hb
    rcases hb with hb | hb
    · exact h0.lt b hb
    · exact h1.lt b hb
  own_keep := by
    rintro w w' F cs x hk ⟨m0, m1, g0, g1, rfl, rfl, h0, h1, h2⟩
    exact ⟨m0, m1, g0, g1, rfl, rfl, h0.keep (fun b hb => hk b (by simp [hb])), h1.keep (fun b hb => hk b (by simp [hb])), h2⟩
theorem reads_Kern {P : Program} {T : TypeId} {q0 q1 q2 : Field} (hT : P.underlying T = some (.struct #[q0, q1, q2])) (hc : P.cellsOf T = 3)
    (k0 : q0.offset = 0) (r0 : Reads P q0.type (slC intC)) (k1 : q1.offset = 1) (r1 : Reads P q1.type (slC intC)) (k2 : q2.offset = 2) (r2 : Reads P q2.type intC) : Reads P T KernC := by
  refine ⟨hc, fun H enc w fuel cs x h => ?_⟩
  obtain ⟨hl, hf⟩ := struct_fields hT h
  rw [hc] at hl
  match cs, hl with
  | [c0, c1, c2], _ =>
    obtain ⟨a0, e0⟩ := hf 0 q0 0 (slC intC) rfl k0 r0
    obtain ⟨a1, e1⟩ := hf 1 q1 1 (slC intC) rfl k1 r1
    obtain ⟨a2, e2⟩ := hf 2 q2 2 intC rfl k2 r2
    obtain ⟨m0, E0, z0⟩ := e0
    cases E0
    obtain ⟨m1, E1, z1⟩ := e1
    cases E1
    obtain ⟨E2, z2⟩ := e2
    cases E2
    exact ⟨⟨a0, a1, a2⟩, _, _, rfl, z0, z1, z2⟩

structure TMarkRule where
  fMarks : List Int
  fBases : List Int
  fAnchor : ByteArray
def MarkRuleC : Cod TMarkRule where
  n := 3
  rep w cs x := ∃ m0 m1 : Value, cs = [m0, m1, .string x.fAnchor] ∧ Sl intC w m0 x.fMarks ∧ Sl intC w m1 x.fBases ∧ x.fAnchor.size ≤ maxLen
  own w F cs x := ∃ (m0 m1 : Value) (g0 g1 : List Nat), F = g0 ++ g1 ∧ cs = [m0, m1, .string x.fAnchor] ∧ OwnS intC w g0 m0 x.fMarks ∧ OwnS intC w g1 m1 x.fBases ∧ x.fAnchor.size ≤ maxLen
  len := by rintro w cs x ⟨m0, m1, rfl, _⟩; rfl
  keep := by rintro w w' cs x hb ⟨m0, m1, rfl, h0, h1, h2⟩; exact ⟨m0, m1, rfl, h0.keep hb, h1.keep hb, h2⟩
  own_rep := by rintro w F cs x ⟨m0, m1, g0, g1, rfl, rfl, h0, h1, h2⟩; exact ⟨m0, m1, rfl, h0.rep, h1.rep, h2⟩
  own_lt := by
    rintro w F cs x ⟨m0, m1, g0, g1, rfl, rfl, h0, h1, h2⟩ b hb
    simp only [List.mem_append] at hb
    rcases hb with hb | hb
    · exact h0.lt b hb
    · exact h1.lt b hb
  own_keep := by
    rintro w w' F cs x hk ⟨m0, m1, g0, g1, rfl, rfl, h0, h1, h2⟩
    exact ⟨m0, m1, g0, g1, rfl, rfl, h0.keep (fun b hb => hk b (by simp [hb])), h1.keep (fun b hb => hk b (by simp [hb])), h2⟩
theorem reads_MarkRule {P : Program} {T : TypeId} {q0 q1 q2 : Field} (hT : P.underlying T = some (.struct #[q0, q1, q2])) (hc : P.cellsOf T = 3)
    (k0 : q0.offset = 0) (r0 : Reads P q0.type (slC intC)) (k1 : q1.offset = 1) (r1 : Reads P q1.type (slC intC)) (k2 : q2.offset = 2) (r2 : Reads P q2.type strC) : Reads P T MarkRuleC := by
  refine ⟨hc, fun H enc w fuel cs x h => ?_⟩
  obtain ⟨hl, hf⟩ := struct_fields hT h
  rw [hc] at hl
  match cs, hl with
  | [c0, c1, c2], _ =>
    obtain ⟨a0, e0⟩ := hf 0 q0 0 (slC intC) rfl k0 r0
    obtain ⟨a1, e1⟩ := hf 1 q1 1 (slC intC) rfl k1 r1
    obtain ⟨a2, e2⟩ := hf 2 q2 2 strC rfl k2 r2
    obtain ⟨m0, E0, z0⟩ := e0
    cases E0
    obtain ⟨m1, E1, z1⟩ := e1
    cases E1
    obtain ⟨E2, z2⟩ := e2
    cases E2
    exact ⟨⟨a0, a1, a2⟩, _, _, rfl, z0, z1, z2⟩

structure TJoin where
  fGlyph : Int
  fKind : Int
  fInit : Int
  fMedi : Int
  fFina : Int
def JoinC : Cod TJoin where
  n := 5
  rep _ cs x := cs = [.int .i64 x.fGlyph, .int .i64 x.fKind, .int .i64 x.fInit, .int .i64 x.fMedi, .int .i64 x.fFina] ∧ I64 x.fGlyph ∧ I64 x.fKind ∧ I64 x.fInit ∧ I64 x.fMedi ∧ I64 x.fFina
  own _ F cs x := F = [] ∧ cs = [.int .i64 x.fGlyph, .int .i64 x.fKind, .int .i64 x.fInit, .int .i64 x.fMedi, .int .i64 x.fFina] ∧ I64 x.fGlyph ∧ I64 x.fKind ∧ I64 x.fInit ∧ I64 x.fMedi ∧ I64 x.fFina
  len := by rintro w cs x ⟨rfl, _⟩; rfl
  keep := fun _ _ _ _ _ h => h
  own_rep := fun _ _ _ _ h => h.2
  own_lt := by rintro w F cs x ⟨rfl, _⟩ b hb; cases hb
  own_keep := fun _ _ _ _ _ _ h => h
theorem reads_Join {P : Program} {T : TypeId} {q0 q1 q2 q3 q4 : Field} (hT : P.underlying T = some (.struct #[q0, q1, q2, q3, q4])) (hc : P.cellsOf T = 5)
    (k0 : q0.offset = 0) (r0 : Reads P q0.type intC) (k1 : q1.offset = 1) (r1 : Reads P q1.type intC) (k2 : q2.offset = 2) (r2 : Reads P q2.type intC) (k3 : q3.offset = 3) (r3 : Reads P q3.type intC) (k4 : q4.offset = 4) (r4 : Reads P q4.type intC) : Reads P T JoinC := by
  refine ⟨hc, fun H enc w fuel cs x h => ?_⟩
  obtain ⟨hl, hf⟩ := struct_fields hT h
  rw [hc] at hl
  match cs, hl with
  | [c0, c1, c2, c3, c4], _ =>
    obtain ⟨a0, e0⟩ := hf 0 q0 0 intC rfl k0 r0
    obtain ⟨a1, e1⟩ := hf 1 q1 1 intC rfl k1 r1
    obtain ⟨a2, e2⟩ := hf 2 q2 2 intC rfl k2 r2
    obtain ⟨a3, e3⟩ := hf 3 q3 3 intC rfl k3 r3
    obtain ⟨a4, e4⟩ := hf 4 q4 4 intC rfl k4 r4
    obtain ⟨E0, z0⟩ := e0
    cases E0
    obtain ⟨E1, z1⟩ := e1
    cases E1
    obtain ⟨E2, z2⟩ := e2
    cases E2
    obtain ⟨E3, z3⟩ := e3
    cases E3
    obtain ⟨E4, z4⟩ := e4
    cases E4
    exact ⟨⟨a0, a1, a2, a3, a4⟩, rfl, z0, z1, z2, z3, z4⟩

structure TFeatures where
  fLookups : List TLookup
  fKerns : List TKern
  fMarks : List TMarkRule
  fJoins : List TJoin
def FeaturesC : Cod TFeatures where
  n := 4
  rep w cs x := ∃ m0 m1 m2 m3 : Value, cs = [m0, m1, m2, m3] ∧ Sl LookupC w m0 x.fLookups ∧ Sl KernC w m1 x.fKerns ∧ Sl MarkRuleC w m2 x.fMarks ∧ Sl JoinC w m3 x.fJoins
  own w F cs x := ∃ (m0 m1 m2 m3 : Value) (g0 g1 g2 g3 : List Nat), F = g0 ++ g1 ++ g2 ++ g3 ∧ cs = [m0, m1, m2, m3] ∧ OwnS LookupC w g0 m0 x.fLookups ∧ OwnS KernC w g1 m1 x.fKerns ∧ OwnS MarkRuleC w g2 m2 x.fMarks ∧ OwnS JoinC w g3 m3 x.fJoins
  len := by rintro w cs x ⟨m0, m1, m2, m3, rfl, _⟩; rfl
  keep := by rintro w w' cs x hb ⟨m0, m1, m2, m3, rfl, h0, h1, h2, h3⟩; exact ⟨m0, m1, m2, m3, rfl, h0.keep hb, h1.keep hb, h2.keep hb, h3.keep hb⟩
  own_rep := by rintro w F cs x ⟨m0, m1, m2, m3, g0, g1, g2, g3, rfl, rfl, h0, h1, h2, h3⟩; exact ⟨m0, m1, m2, m3, rfl, h0.rep, h1.rep, h2.rep, h3.rep⟩
  own_lt := by
    rintro w F cs x ⟨m0, m1, m2, m3, g0, g1, g2, g3, rfl, rfl, h0, h1, h2, h3⟩ b hb
    simp only [List.mem_append] at hb
    rcases hb with ((hb | hb) | hb) | hb
    · exact h0.lt b hb
    · exact h1.lt b hb
    · exact h2.lt b hb
    · exact h3.lt b hb
  own_keep := by
    rintro w w' F cs x hk ⟨m0, m1, m2, m3, g0, g1, g2, g3, rfl, rfl, h0, h1, h2, h3⟩
    exact ⟨m0, m1, m2, m3, g0, g1, g2, g3, rfl, rfl, h0.keep (fun b hb => hk b (by simp [hb])), h1.keep (fun b hb => hk b (by simp [hb])), h2.keep (fun b hb => hk b (by simp [hb])), h3.keep (fun b hb => hk b (by simp [hb]))⟩
theorem reads_Features {P : Program} {T : TypeId} {q0 q1 q2 q3 : Field} (hT : P.underlying T = some (.struct #[q0, q1, q2, q3])) (hc : P.cellsOf T = 4)
    (k0 : q0.offset = 0) (r0 : Reads P q0.type (slC LookupC)) (k1 : q1.offset = 1) (r1 : Reads P q1.type (slC KernC)) (k2 : q2.offset = 2) (r2 : Reads P q2.type (slC MarkRuleC)) (k3 : q3.offset = 3) (r3 : Reads P q3.type (slC JoinC)) : Reads P T FeaturesC := by
  refine ⟨hc, fun H enc w fuel cs x h => ?_⟩
  obtain ⟨hl, hf⟩ := struct_fields hT h
  rw [hc] at hl
  match cs, hl with
  | [c0, c1, c2, c3], _ =>
    obtain ⟨a0, e0⟩ := hf 0 q0 0 (slC LookupC) rfl k0 r0
    obtain ⟨a1, e1⟩ := hf 1 q1 1 (slC KernC) rfl k1 r1
    obtain ⟨a2, e2⟩ := hf 2 q2 2 (slC MarkRuleC) rfl k2 r2
    obtain ⟨a3, e3⟩ := hf 3 q3 3 (slC JoinC) rfl k3 r3
    obtain ⟨m0, E0, z0⟩ := e0
    cases E0
    obtain ⟨m1, E1, z1⟩ := e1
    cases E1
    obtain ⟨m2, E2, z2⟩ := e2
    cases E2
    obtain ⟨m3, E3, z3⟩ := e3
    cases E3
    exact ⟨⟨a0, a1, a2, a3⟩, _, _, _, _, rfl, z0, z1, z2, z3⟩

structure TItem where
  fGlyph : Int
  fFrom : Int
  fLen : Int
def ItemC : Cod TItem where
  n := 3
  rep _ cs x := cs = [.int .i64 x.fGlyph, .int .i64 x.fFrom, .int .i64 x.fLen] ∧ I64 x.fGlyph ∧ I64 x.fFrom ∧ I64 x.fLen
  own _ F cs x := F = [] ∧ cs = [.int .i64 x.fGlyph, .int .i64 x.fFrom, .int .i64 x.fLen] ∧ I64 x.fGlyph ∧ I64 x.fFrom ∧ I64 x.fLen
  len := by rintro w cs x ⟨rfl, _⟩; rfl
  keep := fun _ _ _ _ _ h => h
  own_rep := fun _ _ _ _ h => h.2
  own_lt := by rintro w F cs x ⟨rfl, _⟩ b hb; cases hb
  own_keep := fun _ _ _ _ _ _ h => h
theorem reads_Item {P : Program} {T : TypeId} {q0 q1 q2 : Field} (hT : P.underlying T = some (.struct #[q0, q1, q2])) (hc : P.cellsOf T = 3)
    (k0 : q0.offset = 0) (r0 : Reads P q0.type intC) (k1 : q1.offset = 1) (r1 : Reads P q1.type intC) (k2 : q2.offset = 2) (r2 : Reads P q2.type intC) : Reads P T ItemC := by
  refine ⟨hc, fun H enc w fuel cs x h => ?_⟩
  obtain ⟨hl, hf⟩ := struct_fields hT h
  rw [hc] at hl
  match cs, hl with
  | [c0, c1, c2], _ =>
    obtain ⟨a0, e0⟩ := hf 0 q0 0 intC rfl k0 r0
    obtain ⟨a1, e1⟩ := hf 1 q1 1 intC rfl k1 r1
    obtain ⟨a2, e2⟩ := hf 2 q2 2 intC rfl k2 r2
    obtain ⟨E0, z0⟩ := e0
    cases E0
    obtain ⟨E1, z1⟩ := e1
    cases E1
    obtain ⟨E2, z2⟩ := e2
    cases E2
    exact ⟨⟨a0, a1, a2⟩, rfl, z0, z1, z2⟩

end Go.Proofs.Ytdeafbgnbgihgaa
